/-
  The walk of the document's Reader.Text.
-/
import Derived.Test.YtbbjeokecgnfpaaGreatDFixed
import Derived.Test.YtbbjeokecgnfpaaGreatBaseF
import Derived.Test.YtbbjeokecgnfpaaGreatWireRise
namespace Go.Proofs.YtbbjeokecgnfpaaGreat
open Go.RowKit WireM

section
variable {P : Program} {w : World} {t e : TypeId} {z : Value} {size bytes : Nat}
theorem run_cut_mid2 (T : AppTy P t e z size bytes) (A : Option Addr) (n c lo hi : Nat) (kl kh : IntKind) (i j : Int) (hi1 : i = (lo : Int)) (hj : j = (hi : Int)) (hk : lo ≤ hi) (hk2 : hi ≤ c) (w : World) : (Instr.slice t (.slice A n c) (some (.int kl i)) (some (.int kh j)) none).run P w = .ok (.slice (cutA A c lo size) (hi - lo) (c - lo)) w := by
  obtain ⟨inf, h1, _, hs, _⟩ := T.info
  subst hi1 hj
  have h0 : (0 : Int) ≤ (lo : Int) := by omega
  have h0' : (0 : Int) ≤ (hi : Int) := by omega
  simp [Instr.slice, Instr.sliceBounds, Instr.sliceBound, asIntOf, run_underlying T.ht, sizeOf, typeInfo, h1, hs, h0, h0', hk, hk2, Sem.run_bind, Sem.run_pure, Result.andThen, cutA]
theorem step_cut_mid2 {o : Oper} {a' : Act} {w1 : World} {K : Act → World → Prop} {Q : Exit → Act → World → Prop} (T : AppTy P t e z size bytes) {s h h2 : Nat} (ho : o.op = .slice t (.tmp s) (some (.tmp h)) (some (.tmp h2)) none) {A : Option Addr} {n c : Nat} {kl kh : IntKind} {i j : Int} (q1 : a'.tmps[s]? = some (.slice A n c)) (q2 : a'.tmps[h]? = some (.int kl i)) (q3 : a'.tmps[h2]? = some (.int kh j)) (lo hi : Nat) (hi1 : i = (lo : Int)) (hj : j = (hi : Int)) (hk : lo ≤ hi) (hk2 : hi ≤ c)
    (hK : K (a'.put o.dst (.slice (cutA A c lo size) (hi - lo) (c - lo))) w1) : o.wp P a' w1 K Q := by
  refine step_value (v := .slice (cutA A c lo size) (hi - lo) (c - lo)) (w2 := w1) ?_ hK
  simp only [execOp, ho, Option.map_some, Option.map_none, eval_tmp q1, eval_tmp q2, eval_tmp q3, Sem.run_bind, run_at T, run_cut_mid2 T A n c lo hi kl kh i j hi1 hj hk hk2, Result.andThen_ok, Sem.run_pure]
end
theorem BytesAt.mid {w : World} {B n c : Nat} {A : Option Addr} {l : List UInt8} (h : BytesAt w B A n l) (lo k : Nat) (hk : lo + k ≤ n) (hnc : n ≤ c) : BytesAt w B (cutA A c lo 1) k ((l.drop lo).take k) :=
  (h.tail lo (by omega) hnc).head k (by omega)
theorem bytes_lt {w : World} {B : Nat} {l : List UInt8} {A2 : Option Addr} {n2 : Nat} (h : BytesAt w B A2 n2 l) (hn : 0 < n2) : ∀ ad, A2 = some ad → ad.block < B := fun ad e => by
  obtain ⟨b, off, e2, hb, _⟩ := h.at_ hn
  rw [e2] at e
  injection e with e
  subst e
  exact hb
/-- only new blocks turn -/
def NewS (B : Nat) : Nat → Prop := fun k => B ≤ k
/-- the chain of append([]byte{}, ..) -/
def txW (w0 : World) (n : Nat) (l : List UInt8) : List Value → World → Prop
  | [], w => Keep (NewS w0.heap.size) w0 w
  | [x], w => Keep (NewS w0.heap.size) w0 w ∧ w.ownsRow w0.heap.size 5 1 x 0 []
  | [_, x], w => Keep (NewS w0.heap.size) w0 w ∧ w.ownsRow w0.heap.size 5 1 x n (l.map b8)
  | [_, _, x], w => Keep (NewS w0.heap.size) w0 w ∧ w.ownsRow w0.heap.size 5 1 x n (l.map b8)
  | _, _ => False
theorem txW.grow {w0 : World} {n : Nat} {l : List UInt8} : ∀ (vals : List Value) (w w2 : World), Grow w w2 → txW w0 n l vals w → txW w0 n l vals w2
  | [], _, _, hg, h => Keep.trans' h (Keep.grow hg)
  | [_], _, _, hg, h => ⟨Keep.trans' h.1 (Keep.grow hg), own_below h.2 hg⟩
  | [_, _], _, _, hg, h => ⟨Keep.trans' h.1 (Keep.grow hg), own_below h.2 hg⟩
  | [_, _, _], _, _, hg, h => ⟨Keep.trans' h.1 (Keep.grow hg), own_below h.2 hg⟩
  | _ :: _ :: _ :: _ :: _, _, _, _, h => h

set_option maxRecDepth 100000 in
set_option maxHeartbeats 4000000 in
theorem dText_any (w : World) (g : Nat) (A : Option Addr) (n c : Nat) (L : List UInt8) (at0 : Nat) (bad0 : Bool) (most : Int) (h0 : Rdd w g A n c L at0 bad0) (hn : n ≤ 140737488351232) :
    Calls Tryz.prog 42 #[.pointer (some ⟨g, 0, none⟩), .int .i64 most] w fun e w' => ∃ r B, e = .returned r ∧ w.heap.size ≤ B ∧ w'.ownsRow B 5 1 r (text most (ddSt L at0 bad0)).1.length ((text most (ddSt L at0 bad0)).1.map b8) ∧ RddAt w g A n c L (text most (ddSt L at0 bad0)).2 w' := by
  have bytesTy : AppTy Tryz.prog 26 5 (.int .u8 0) 1 1 := AppTy.mk' Tryz.underlying26 (by kernel_rfl) rfl (by decide)
  have hnum := dNumber_any w g A n c L at0 bad0 most h0
  rw [text_of]
  obtain ⟨N, hN⟩ : ∃ N, N = num most (ddSt L at0 bad0) := ⟨_, rfl⟩
  rw [← hN] at hnum ⊢
  have hm0 : N.1 ≤ 1099511627776 := by rw [hN]; exact num_most _ _
  obtain ⟨m, st⟩ := N
  have hm1 : m ≤ 1099511627776 := hm0
  obtain ⟨T, hT⟩ : ∃ T, T = textOf (m, st) := ⟨_, rfl⟩
  rw [← hT]
  have HT := Lib.hid hT
  have Hnum := Lib.hid hnum
  have hcm := h0.cm
  have hnc := h0.nc
  unfold maxLen at hcm
  clear hN hT hnum hm0 h0
  go_enter Tryz.func42, Tryz.ntmps42
  go_wp2_with fail
  refine Hnum.out.mono ?_
  rintro e w1 ⟨rfl, at1, bad1, hd1, hs1, hk1⟩
  have Hs1 := Lib.hid hs1
  clear hs1
  have hle := hd1.le
  have hc0 := hd1.cell.cell 0
  have hc1 := hd1.cell.cell 1
  have hc2 := hd1.cell.cell 2
  have hm := fun q => (hd1.grow (Grow.drewN w1 q)).mark true
  have Hm := Lib.hid hm
  have hf2 := hd1.cell.frozen 2
  have hf1 := hd1.cell.frozen 1
  clear hm
  cases bad1 with
  | true =>
    have hst : st = none := Hs1.out.symm
    subst hst
    have hTe : T = ([], none) := HT.out
    subst hTe
    clear HT
    go_wp2_with fail
    go_quiet (fail)
    go_wp2
    go_ret
    refine ⟨_, rfl, w.heap.size, Nat.le_refl _, World.ownsRow_nil _ _ _ _, at1, true, (Hm.out _).1, rfl, (hk1.trans' (Keep.grow (Grow.drewN _ _))).trans' (Hm.out _).2⟩
  | false =>
    have hst : some (L.drop at1) = st := Hs1.out
    subst hst
    have w10 : IntKind.i64.wrap ((n : Int) - (at1 : Int)) = (n : Int) - (at1 : Int) := IntWalk.i64_in _ (by omega)
    have hlen : (L.drop at1).length = n - at1 := by rw [List.length_drop, hd1.len]
    by_cases hmn : m ≤ n - at1
    · have d1 : decide ((n : Int) - (at1 : Int) < (m : Int)) = false := decide_eq_false (by omega)
      have hTe : T = ((L.drop at1).take m, some ((L.drop at1).drop m)) := by rw [HT.out, textOf, if_pos (by rw [hlen]; exact hmn)]
      have HTe := Lib.hid hTe
      clear HT hTe
      have hgo : ∀ q, Rdd ((w1.drewN q).setCell ⟨g, 1, none⟩ (.int .i64 ((at1 : Int) + (m : Int)))) g A n c L (at1 + m) false ∧ Keep (Own1 g) w1 ((w1.drewN q).setCell ⟨g, 1, none⟩ (.int .i64 ((at1 : Int) + (m : Int)))) := fun q => by
        have h := (hd1.grow (Grow.drewN w1 q)).go (at1 + m) (by omega)
        rw [Int.natCast_add] at h
        exact ⟨h.1, (Keep.grow (Grow.drewN w1 q)).trans' h.2⟩
      have Hgo := Lib.hid hgo
      clear hgo hd1
      go_wp2_with fail
      go_quiet (fail)
      go_wp2_with fail
      obtain ⟨hd5, hk5⟩ := Hgo.out nq
      obtain ⟨W5, hW5⟩ : ∃ W5, (w1.drewN nq).setCell ⟨g, 1, none⟩ (.int .i64 ((at1 : Int) + (m : Int))) = W5 := ⟨_, rfl⟩
      rw [hW5] at hd5 hk5 ⊢
      clear hW5 Hgo Hm
      have hb0 := hd5.cell.cell 0
      have hb1 := hd5.cell.cell 1
      have hgl := hd5.cell.lt
      have hgb : ¬ NewS W5.heap.size g := fun h => by have h' : W5.heap.size ≤ g := h; omega
      have Hmid := Lib.hid (show ∀ w3, Keep (NewS W5.heap.size) W5 w3 → BytesAt w3 W5.heap.size (cutA A c at1 1) m ((L.drop at1).take m) from fun w3 hk => ReadsAt.keep (hd5.reads.mid at1 m (by omega) hnc) fun p hp => hk.cell hp (fun h => by have h' : W5.heap.size ≤ p.block := h; omega))
      have w49 : IntKind.i64.wrap ((at1 : Int) + (m : Int) - (m : Int)) = (at1 : Int) := by rw [show (at1 : Int) + (m : Int) - (m : Int) = (at1 : Int) by omega]; exact IntWalk.i64_in _ (by omega)
      refine wp_region_stages (by kernel_rfl) ?_
      refine anyOrder_start [0, 16, 17] (Keep (NewS W5.heap.size)) (txW W5 m ((L.drop at1).take m)) (FactsOn [.any, .is (.pointer (some ⟨g, 0, none⟩)), .is (.pointer (some ⟨g, 0, none⟩)), .is (.pointer (some ⟨g, 0, none⟩)), .is (.slice A n c), .is (.pointer (some ⟨g, 0, none⟩)), .is (.pointer (some ⟨g, 0, none⟩)), .is (.pointer (some ⟨g, 1, none⟩)), .is (.int .i64 ((at1 : Int) + (m : Int))), .is (.int .i64 (m : Int)), .is (.int .i64 (at1 : Int)), .is (.pointer (some ⟨g, 0, none⟩)), .is (.pointer (some ⟨g, 0, none⟩)), .is (.pointer (some ⟨g, 1, none⟩)), .is (.int .i64 ((at1 : Int) + (m : Int))), .is (.slice (cutA A c at1 1) (at1 + m - at1) (c - at1)), .any, .any]) (fun i => 99) keep_trans keep_grow (txW.grow) (factsOn_mono _) (by kernel_rfl) (by kernel_rfl) (show txW W5 m ((L.drop at1).take m) [] W5 from Keep.refl _ _) ?_ ?_
      · refine ⟨?_, ?_, ?_, ?_, ?_, ?_, ?_, ?_, ?_, ?_, ?_, ?_, ?_, ?_, ?_, ?_, ?_, ?_, trivial⟩
        · refine stageOf_mem (t := 0) rfl ?_
          intro us vals w3 a' ha hle hW hd hv
          obtain rfl := List.eq_nil_of_length_eq_zero (Nat.le_zero.1 (show vals.length ≤ 0 from Nat.le_of_eq hv))
          refine ⟨wanted_none rfl, fun K hK => ?_⟩
          refine step_value (v := .slice (some ⟨w3.heap.size, 0, none⟩) 0 0) (w2 := w3.alloc (.cells #[] 5)) (by go_simp) (hK _ _ (Keep.grow (Grow.alloc _ _)) ⟨hW.trans' (Keep.grow (Grow.alloc _ _)), World.ownsRow_made w3 #[] 0 hle.size (by decide) rfl⟩)
        · refine stageOf_free rfl (fun _ _ _ _ _ _ => wanted_none rfl) ?_
          intro us vals w3 a' ha hle hW hd hv K hK
          have q0 : a'.tmps[0]? = some (.pointer (some ⟨g, 0, none⟩)) := by rw [ha.out]; kernel_rfl
          exact step_value (w2 := w3) (by go_simp) (hK _ _ (Grow.refl _) rfl)
        · refine stageOf_free rfl (fun _ _ _ _ _ _ => wanted_none rfl) ?_
          intro us vals w3 a' ha hle hW hd hv K hK
          obtain ⟨d1, _⟩ := hd
          have q40 : a'.tmps[40]? = some (us 1) := by rw [ha.out]; kernel_rfl
          rw [show us 1 = .pointer (some ⟨g, 0, none⟩) from d1] at q40
          refine step_value (v := .pointer (some ⟨g, 0, none⟩)) (w2 := w3) ?_ (hK _ _ (Grow.refl _) rfl)
          go_simp
        · refine stageOf_free rfl (fun _ _ _ _ _ _ => wanted_none rfl) ?_
          intro us vals w3 a' ha hle hW hd hv K hK
          obtain ⟨d2, _⟩ := hd
          have q41 : a'.tmps[41]? = some (us 2) := by rw [ha.out]; kernel_rfl
          rw [show us 2 = .pointer (some ⟨g, 0, none⟩) from d2] at q41
          refine step_value (v := .pointer (some ⟨g, 0, none⟩)) (w2 := w3) ?_ (hK _ _ (Grow.refl _) rfl)
          go_simp
        · refine stageOf_free rfl (fun _ _ _ _ _ _ => wanted_none rfl) ?_
          intro us vals w3 a' ha hle hW hd hv K hK
          obtain ⟨d3, _⟩ := hd
          have q42 : a'.tmps[42]? = some (us 3) := by rw [ha.out]; kernel_rfl
          rw [show us 3 = .pointer (some ⟨g, 0, none⟩) from d3] at q42
          have hc : w3.cell? ⟨g, 0, none⟩ = some (.slice A n c) := (hle.cell (p := ⟨g, 0, none⟩) hgl hgb).trans hb0
          refine step_value (v := .slice A n c) (w2 := w3) ?_ (hK _ _ (Grow.refl _) rfl)
          go_simp
        · refine stageOf_free rfl (fun _ _ _ _ _ _ => wanted_none rfl) ?_
          intro us vals w3 a' ha hle hW hd hv K hK
          have q0 : a'.tmps[0]? = some (.pointer (some ⟨g, 0, none⟩)) := by rw [ha.out]; kernel_rfl
          exact step_value (w2 := w3) (by go_simp) (hK _ _ (Grow.refl _) rfl)
        · refine stageOf_free rfl (fun _ _ _ _ _ _ => wanted_none rfl) ?_
          intro us vals w3 a' ha hle hW hd hv K hK
          obtain ⟨d5, _⟩ := hd
          have q44 : a'.tmps[44]? = some (us 5) := by rw [ha.out]; kernel_rfl
          rw [show us 5 = .pointer (some ⟨g, 0, none⟩) from d5] at q44
          refine step_value (v := .pointer (some ⟨g, 0, none⟩)) (w2 := w3) ?_ (hK _ _ (Grow.refl _) rfl)
          go_simp
        · refine stageOf_free rfl (fun _ _ _ _ _ _ => wanted_none rfl) ?_
          intro us vals w3 a' ha hle hW hd hv K hK
          obtain ⟨d6, _⟩ := hd
          have q45 : a'.tmps[45]? = some (us 6) := by rw [ha.out]; kernel_rfl
          rw [show us 6 = .pointer (some ⟨g, 0, none⟩) from d6] at q45
          refine step_value (v := .pointer (some ⟨g, 1, none⟩)) (w2 := w3) ?_ (hK _ _ (Grow.refl _) rfl)
          go_simp
        · refine stageOf_free rfl (fun _ _ _ _ _ _ => wanted_none rfl) ?_
          intro us vals w3 a' ha hle hW hd hv K hK
          obtain ⟨d7, _⟩ := hd
          have q46 : a'.tmps[46]? = some (us 7) := by rw [ha.out]; kernel_rfl
          rw [show us 7 = .pointer (some ⟨g, 1, none⟩) from d7] at q46
          have hc : w3.cell? ⟨g, 1, none⟩ = some (.int .i64 ((at1 : Int) + (m : Int))) := (hle.cell (p := ⟨g, 1, none⟩) hgl hgb).trans hb1
          refine step_value (v := .int .i64 ((at1 : Int) + (m : Int))) (w2 := w3) ?_ (hK _ _ (Grow.refl _) rfl)
          go_simp
        · refine stageOf_free rfl (fun _ _ _ _ _ _ => wanted_none rfl) ?_
          intro us vals w3 a' ha hle hW hd hv K hK
          have q5 : a'.tmps[5]? = some (.int .i64 (m : Int)) := by rw [ha.out]; kernel_rfl
          exact step_value (w2 := w3) (by go_simp) (hK _ _ (Grow.refl _) rfl)
        · refine stageOf_free rfl (fun _ _ _ _ _ _ => wanted_none rfl) ?_
          intro us vals w3 a' ha hle hW hd hv K hK
          obtain ⟨d8, d9, _⟩ := hd
          have q47 : a'.tmps[47]? = some (us 8) := by rw [ha.out]; kernel_rfl
          rw [show us 8 = .int .i64 ((at1 : Int) + (m : Int)) from d8] at q47
          have q48 : a'.tmps[48]? = some (us 9) := by rw [ha.out]; kernel_rfl
          rw [show us 9 = .int .i64 (m : Int) from d9] at q48
          refine step_value (v := .int .i64 (at1 : Int)) (w2 := w3) ?_ (hK _ _ (Grow.refl _) rfl)
          go_simp
          exact IntWalk.i64_in _ (by omega)
        · refine stageOf_free rfl (fun _ _ _ _ _ _ => wanted_none rfl) ?_
          intro us vals w3 a' ha hle hW hd hv K hK
          have q0 : a'.tmps[0]? = some (.pointer (some ⟨g, 0, none⟩)) := by rw [ha.out]; kernel_rfl
          exact step_value (w2 := w3) (by go_simp) (hK _ _ (Grow.refl _) rfl)
        · refine stageOf_free rfl (fun _ _ _ _ _ _ => wanted_none rfl) ?_
          intro us vals w3 a' ha hle hW hd hv K hK
          obtain ⟨d11, _⟩ := hd
          have q50 : a'.tmps[50]? = some (us 11) := by rw [ha.out]; kernel_rfl
          rw [show us 11 = .pointer (some ⟨g, 0, none⟩) from d11] at q50
          refine step_value (v := .pointer (some ⟨g, 0, none⟩)) (w2 := w3) ?_ (hK _ _ (Grow.refl _) rfl)
          go_simp
        · refine stageOf_free rfl (fun _ _ _ _ _ _ => wanted_none rfl) ?_
          intro us vals w3 a' ha hle hW hd hv K hK
          obtain ⟨d12, _⟩ := hd
          have q51 : a'.tmps[51]? = some (us 12) := by rw [ha.out]; kernel_rfl
          rw [show us 12 = .pointer (some ⟨g, 0, none⟩) from d12] at q51
          refine step_value (v := .pointer (some ⟨g, 1, none⟩)) (w2 := w3) ?_ (hK _ _ (Grow.refl _) rfl)
          go_simp
        · refine stageOf_free rfl (fun _ _ _ _ _ _ => wanted_none rfl) ?_
          intro us vals w3 a' ha hle hW hd hv K hK
          obtain ⟨d13, _⟩ := hd
          have q52 : a'.tmps[52]? = some (us 13) := by rw [ha.out]; kernel_rfl
          rw [show us 13 = .pointer (some ⟨g, 1, none⟩) from d13] at q52
          have hc : w3.cell? ⟨g, 1, none⟩ = some (.int .i64 ((at1 : Int) + (m : Int))) := (hle.cell (p := ⟨g, 1, none⟩) hgl hgb).trans hb1
          refine step_value (v := .int .i64 ((at1 : Int) + (m : Int))) (w2 := w3) ?_ (hK _ _ (Grow.refl _) rfl)
          go_simp
        · refine stageOf_free rfl (fun _ _ _ _ _ _ => wanted_none rfl) ?_
          intro us vals w3 a' ha hle hW hd hv K hK
          obtain ⟨d4, d10, d14, _⟩ := hd
          have q43 : a'.tmps[43]? = some (us 4) := by rw [ha.out]; kernel_rfl
          rw [show us 4 = .slice A n c from d4] at q43
          have q49 : a'.tmps[49]? = some (us 10) := by rw [ha.out]; kernel_rfl
          rw [show us 10 = .int .i64 (at1 : Int) from d10] at q49
          have q53 : a'.tmps[53]? = some (us 14) := by rw [ha.out]; kernel_rfl
          rw [show us 14 = .int .i64 ((at1 : Int) + (m : Int)) from d14] at q53
          exact step_cut_mid2 bytesTy rfl q43 q49 q53 at1 (at1 + m) rfl (by rw [Int.natCast_add]) (by omega) (by omega) (hK _ _ (Grow.refl _) rfl)
        · refine stageOf_mem (t := 1) rfl ?_
          intro us vals w3 a' ha hle hW hd hv
          obtain ⟨d0, d15, _⟩ := hd
          obtain ⟨x0, rfl⟩ := List.length_eq_one_iff.1 hv
          obtain rfl : us 0 = x0 := by have h0 : some x0 = some (us 0) := d0; injection h0 with h0; exact h0.symm
          refine ⟨wanted_none rfl, fun K hK => ?_⟩
          have q39 : a'.tmps[39]? = some (us 0) := by rw [ha.out]; kernel_rfl
          have q54 : a'.tmps[54]? = some (us 15) := by rw [ha.out]; kernel_rfl
          rw [show us 15 = .slice (cutA A c at1 1) (at1 + m - at1) (c - at1) from d15] at q54
          rw [show at1 + m - at1 = m by omega] at q54
          refine wp_append_reads w3 (.tmp 39) (.tmp 54) rfl bytesTy (evalT q39) hW.2 (evalT q54) (Hmid.out w3 hle) (b8_one _) (by simp only [maxLen]; omega) (by omega) hle.size ?_
          intro v2 w4 ho hg hat
          have hk : Keep (NewS W5.heap.size) w3 w4 := (Keep.grown hg).mono fun j hj => Or.inl (hW.2.lt j hj).1
          exact hK _ _ hk ⟨hW.1.trans' hk, by simpa using ho⟩
        · refine stageOf_mem (t := 2) rfl ?_
          intro us vals w3 a' ha hle hW hd hv
          obtain ⟨d16, _, _, _, _, _, _, _, _, _, _, _, _, _, _, _, _, _, _, _⟩ := hd
          refine ⟨wanted_none rfl, fun K hK => ?_⟩
          have q55 : a'.tmps[55]? = some (us 16) := by rw [ha.out]; kernel_rfl
          obtain ⟨a0, a1, rfl⟩ : ∃ a0 a1, vals = [a0, a1] := by match vals, hv with | [a0, a1], _ => exact ⟨a0, a1, rfl⟩
          have e16 : a1 = us 16 := by have h0 : some a1 = some (us 16) := d16; injection h0
          subst e16
          exact step_value (w2 := w3) (by go_simp) (hK _ _ (Keep.refl _ _) hW)
      · intro us vals w3 hle hvl hV htl hfa
        obtain ⟨a0, a1, a2, rfl⟩ : ∃ a0 a1 a2, vals = [a0, a1, a2] := by match vals, hvl with | [a0, a1, a2], _ => exact ⟨a0, a1, a2, rfl⟩
        have e2 : a2 = us 17 := by have h0 : some a2 = some (us 17) := htl 2 (by simp); injection h0
        subst e2
        obtain ⟨hk3, hown3⟩ := hV
        have hd3 : Rdd w3 g A n c L (at1 + m) false := hd5.kept hk3 hgb fun h0 ad e h => by
          have h1 := bytes_lt hd5.reads h0 ad e
          have h' : W5.heap.size ≤ ad.block := h
          omega
        have hkw : Keep (Own1 g) w w3 := (hk1.trans' hk5).trans hk3 fun j hj => Or.inr (by have h' : W5.heap.size ≤ j := hj; have := (hk1.trans' hk5).size; omega)
        have hwz := (hk1.trans' hk5).size
        have hll : ((L.drop at1).take m).length = m := by rw [List.length_take, hlen]; omega
        have Hfin := Lib.hid (show w3.ownsRow W5.heap.size 5 1 (us 17) T.1.length (T.1.map b8) by rw [HTe.out, hll]; exact hown3)
        have Hdd := Lib.hid (show ddSt L (at1 + m) false = T.2 by rw [HTe.out]; show some (L.drop (at1 + m)) = some ((L.drop at1).drop m); rw [List.drop_drop])
        clear hfa htl hle hown3 hll
        (try simp only [Exit.then])
        simp only [fills, Act.put, List.setIfInBounds_toArray, List.set_cons_succ, List.set_cons_zero, Nat.zero_add, Nat.reduceAdd]
        go_wp2
        go_ret
        exact ⟨_, W5.heap.size, rfl, hwz, Hfin.out, at1 + m, false, hd3, Hdd.out, hkw⟩
    · have d1 : decide ((n : Int) - (at1 : Int) < (m : Int)) = true := decide_eq_true (by omega)
      have hTe : T = ([], none) := by rw [HT.out, textOf, if_neg (by rw [hlen]; exact hmn)]
      subst hTe
      clear HT
      go_wp2_with fail
      go_quiet (fail)
      go_wp2
      go_ret
      refine ⟨_, rfl, w.heap.size, Nat.le_refl _, World.ownsRow_nil _ _ _ _, at1, true, (Hm.out _).1, rfl, (hk1.trans' (Keep.grow (Grow.drewN _ _))).trans' (Hm.out _).2⟩
end Go.Proofs.YtbbjeokecgnfpaaGreat
