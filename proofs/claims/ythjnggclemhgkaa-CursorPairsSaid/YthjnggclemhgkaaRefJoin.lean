/-
  The walk of the document's Join: rows put into one, each number where it belongs.
-/
import Derived.Deep.CutBlock
import Derived.Deep.CutRange
import Derived.Deep.DeepCutAuto
import Derived.Test.YthjnggclemhgkaaBaseD
import Derived.Test.YthjnggclemhgkaaCurJoin
namespace Go.Proofs.Ythjnggclemhgkaa
open Go.RowKit CurM
set_option linter.unusedVariables false

section
variable {o : Oper} {Q : Exit → Act → World → Prop}
theorem lastQ.assign_g {a : Act} {w : World} {v : Value} {s : Nat} (ho : o.op = .assign (.tmp s)) (hv : a.tmps[s]? = some v) (h : ∀ g : Nat → Value, g = (fun k => (a.put o.dst v).tmps.getD k undef) → Q .normal (a.put o.dst v) w) : lastQ Try.prog o Q .normal a w := lastQ.assign ho hv (h _ rfl)
end
set_option maxRecDepth 100000 in
set_option maxHeartbeats 8000000 in
theorem refJoin_any (w : World) (B : Nat) (A : Option Addr) (n c : Nat) (ls : List (List Int)) (h1 : IRowsAt w B A n ls) (hB : B ≤ w.heap.size) (hn : n ≤ 17592186044416) (htot : ∀ i, ((ls.take i).flatten).length ≤ 17592186044416) :
    Calls Try.prog 24 #[.slice A n c] w (RefNew w (joinL ls)) := by
  have intsTy : AppTy Try.prog 22 3 (.int .i64 0) 1 8 := AppTy.mk' Try.underlying22 (by kernel_rfl) rfl (by decide)
  have Hlen := Lib.hid h1.1
  have H1 := Lib.hid h1
  have Htot := Lib.hid htot
  clear h1 htot
  go_enter Try.func24, Try.ntmps24
  go_wp2
  go_loopw [3, 4] (fun v3 v4 wr => ∃ (i : Nat) (v : Value), i ≤ n ∧ v = v3 ∧ v4 = .int .i64 (i : Int) ∧ Hid (wr.ownsRow w.heap.size 3 1 v ((ls.take i).foldl insAll []).length (((ls.take i).foldl insAll []).map i64v)) ∧ Hid (Below w.heap.size w wr)) (fun _ v4 _ => n - (intOf v4).toNat)
  case atStart => exact ⟨0, _, by omega, rfl, rfl, World.ownsRow_nil _ _ _ _, Below.refl _ _⟩
  case round =>
    obtain ⟨i, v, hi, rfl, rfl, ho, hg⟩ := hrel
    obtain ⟨wo, rfl⟩ : ∃ wo : World, wo = wr := ⟨_, rfl⟩
    by_cases hin : i < n
    · have d1 : decide ((i : Int) < (n : Int)) = true := decide_eq_true (by omega)
      obtain ⟨l, hl⟩ : ∃ l, ls[i]? = some l := ⟨_, List.getElem?_eq_getElem (by rw [Hlen.out]; exact hin)⟩
      obtain ⟨b, off, rfl, -, -⟩ := H1.out.2 (by omega : 0 < n)
      have Hl := Lib.hid hl
      have Hsn := Lib.hid (show (ls.take (i + 1)).foldl insAll [] = insAll ((ls.take i).foldl insAll []) l by rw [List.take_add_one, hl]; simp)
      have HR0 := Lib.hid (up_joinTo (ls := ls.take i) up_nil)
      have Hlen0 := Lib.hid (show (((ls.take i).foldl insAll []).length) + l.length ≤ 17592186044416 by
        have h := Htot.out (i + 1)
        rw [List.take_add_one, hl] at h
        simp only [Option.toList_some, List.flatten_append, List.length_append, List.flatten_cons, List.flatten_nil, List.append_nil] at h
        have h2 := joinTo_len (ls.take i) []
        simp only [List.length_nil, Nat.zero_add] at h2
        omega)
      obtain ⟨R0, hR0⟩ : ∃ R, R = (ls.take i).foldl insAll [] := ⟨_, rfl⟩
      rw [← hR0] at ho Hsn HR0 Hlen0
      clear hl hR0
      go_wp2
      go_loopw [3, 5] (fun v3 v5 wr => ∃ (k : Nat) (v : Value), k ≤ l.length ∧ v = v3 ∧ v5 = .int .i64 (k : Int) ∧ Hid (wr.ownsRow w.heap.size 3 1 v (insAll R0 (l.take k)).length ((insAll R0 (l.take k)).map i64v)) ∧ Hid (Below w.heap.size w wr)) (fun _ v5 _ => l.length - (intOf v5).toNat)
      case atStart => exact ⟨0, _, by omega, rfl, rfl, ho.out, hg⟩
      case round =>
        clear ho hg
        obtain ⟨k, v, hk, rfl, rfl, ho, hg⟩ := hrel
        obtain ⟨wi, rfl⟩ : ∃ wi : World, wi = wr := ⟨_, rfl⟩
        have Hrd := Lib.hid (H1.out.below (Below.mono hg.out hB))
        obtain ⟨hbB, Al, nl, cl, hcr, hnl, hil⟩ := Hrd.out.get Hl.out
        have hlz := hil.len
        obtain ⟨z, hz⟩ : ∃ z, z = l.length := ⟨_, rfl⟩
        rw [← hz] at hlz
        subst hlz
        have Hz := Lib.hid hz
        rw [← hz] at hk
        have Hil := Lib.hid hil
        clear hil hz
        have hgz := hg.out.size
        have hbz : b < wi.heap.size := by omega
        by_cases hkl : k < z
        · have d2 : decide ((k : Int) < (z : Int)) = true := decide_eq_true (by omega)
          obtain ⟨x, hx⟩ : ∃ x, l[k]? = some x := ⟨_, List.getElem?_eq_getElem (by rw [← Hz.out]; exact hkl)⟩
          obtain ⟨p, po, rfl, hpB, hcx⟩ := Hil.out.get hx
          have hpz : p < wi.heap.size := by omega
          have Hsk := Lib.hid (show insAll R0 (l.take (k + 1)) = ins (insAll R0 (l.take k)) x by rw [List.take_add_one, hx]; simp [insAll])
          have HOu := Lib.hid (up_insAll (l := l.take k) HR0.out)
          have hOl : (insAll R0 (l.take k)).length ≤ R0.length + k := Nat.le_trans (insAll_len _ _) (Nat.add_le_add_left (List.length_take_le _ _) _)
          obtain ⟨O, hO⟩ : ∃ O, O = insAll R0 (l.take k) := ⟨_, rfl⟩
          rw [← hO] at ho Hsk HOu hOl
          obtain ⟨m, hm⟩ : ∃ m, m = O.length := ⟨_, rfl⟩
          rw [← hm] at ho hOl
          have Hm := Lib.hid hm
          have hmb : m + 1 ≤ 17592186044416 := by have := Hlen0.out; rw [← Hz.out] at this; omega
          have Hmb := Lib.hid hmb
          obtain ⟨A1, c1, rfl, h11, h12, h13⟩ := own_reads ho.out
          have H13 := Lib.hid h13
          clear hx hO hm hOl h13
          go_upto_block 3 with (fail)
          go_cut [3, 6] from 22 to 77 (fun v3 v6 wx => ∃ v : Value, v = v3 ∧ Hid (wx.ownsRow w.heap.size 3 1 v (insAll R0 (l.take (k + 1))).length ((insAll R0 (l.take (k + 1))).map i64v)) ∧ Hid (Below w.heap.size w wx))
          case first Jx Kx hJx hMx =>
            go_wp2_with fail
            go_loopw [6] (fun v6 wr => ∃ (a q : Nat), a ≤ m ∧ v6 = .int .i64 (a : Int) ∧ Hid (∀ j y, j < a → O[j]? = some y → y < x) ∧ wi.drewN q = wr) (fun v6 _ => m - (intOf v6).toNat)
            case atStart => exact ⟨0, 0, by omega, rfl, fun j y h => by omega, rfl⟩
            case round =>
              obtain ⟨a, q, ha, rfl, hlo, rfl⟩ := hrel
              have haM : a ≤ m := ha
              by_cases ham : a < m
              · have d3 : decide ((a : Int) < (m : Int)) = true := decide_eq_true (by omega)
                obtain ⟨y, hy⟩ : ∃ y, O[a]? = some y := ⟨_, List.getElem?_eq_getElem (by rw [← Hm.out]; exact ham)⟩
                obtain ⟨b1, off1, hA1, hb1, h14⟩ := H13.out.2 (by omega)
                have hcl : wi.cell? ⟨b1, off1 + a, none⟩ = some (.int .i64 y) := h14 a (i64v y) (by rw [List.getElem?_map, hy]; rfl)
                have Hy := Lib.hid hy
                clear hy h14
                by_cases hyx : y < x
                · subst hA1
                  have d4 : decide (y < x) = true := decide_eq_true hyx
                  have Hlo2 := Lib.hid (show ∀ j z, j < a + 1 → O[j]? = some z → z < x from fun j z hj hz => by
                    by_cases e : j = a
                    · subst e
                      rw [Hy.out] at hz
                      injection hz with hz
                      omega
                    · exact hlo.out j z (by omega) hz)
                  go_wp2_with fail
                  go_quiet (fail)
                  go_wp2
                  go_roundw
                  case rel => exact ⟨a + 1, _, by omega, by go_num, Hlo2, rfl⟩
                  case measure => simp [intOf]; omega
                · have d4 : decide (y < x) = false := decide_eq_false hyx
                  have d5 : ((a : Int) == (m : Int)) = false := by rw [beq_eq_false_iff_ne]; omega
                  by_cases hyx2 : y = x
                  · have d6 : (y != x) = false := by simp [hyx2]
                    have Hsame := Lib.hid (show insAll R0 (l.take (k + 1)) = O by
                      rw [Hsk.out]
                      exact ins_there hlo.out (by rw [Hy.out, hyx2]))
                    subst hA1
                    clear hyx2
                    go_wp2_with fail
                    go_quiet (fail)
                    obtain ⟨nq1, rfl⟩ : ∃ z, z = nq := ⟨_, rfl⟩
                    go_wp2_with fail
                    go_quiet (fail)
                    have hgw : Hid (Below w.heap.size w (((wi.drewN q).drewN nq1).drewN nq)) := Below.trans hg.out (Below.mono (show Grow wi (((wi.drewN q).drewN nq1).drewN nq) from ⟨rfl, rfl, rfl, Nat.le_refl _, fun _ _ => rfl⟩) hg.out.size)
                    have how : Hid ((((wi.drewN q).drewN nq1).drewN nq).ownsRow w.heap.size 3 1 (.slice (some ⟨b1, off1, none⟩) m c1) m (O.map i64v)) := ho
                    go_wp2
                    try simp only [Act.put]
                    go_meet
                    case rel => exact ⟨_, rfl, by rw [Hsame.out, ← Hm.out]; exact how, hgw⟩
                  · have d6 : (y != x) = true := by simp [hyx2]
                    have Hgt := Lib.hid (show ∀ z, O[a]? = some z → x < z from fun z hz => by
                      rw [Hy.out] at hz
                      injection hz with hz
                      omega)
                    subst hA1
                    clear hyx2
                    go_wp2_with fail
                    go_quiet (fail)
                    obtain ⟨nq1, rfl⟩ : ∃ z, z = nq := ⟨_, rfl⟩
                    go_wp2_with fail
                    go_quiet (fail)
                    obtain ⟨wr, hwr⟩ : ∃ wr, ((wi.drewN q).drewN nq1).drewN nq = wr := ⟨_, rfl⟩
                    have H13w : Hid (ReadsAt wr wr.heap.size 1 (some ⟨b1, off1, none⟩) m (O.map i64v)) := by rw [← hwr]; exact H13
                    have hgw : Hid (Below w.heap.size w wr) := by rw [← hwr]; exact Below.trans hg.out (Below.mono (show Grow wi (((wi.drewN q).drewN nq1).drewN nq) from ⟨rfl, rfl, rfl, Nat.le_refl _, fun _ _ => rfl⟩) hg.out.size)
                    have how : Hid (wr.ownsRow w.heap.size 3 1 (.slice (some ⟨b1, off1, none⟩) m c1) m (O.map i64v)) := by rw [← hwr]; exact ho
                    have hcrw : wr.cell? ⟨b, off + i, none⟩ = some (.slice (some ⟨p, po, none⟩) z cl) := by rw [← hwr]; exact hcr
                    have hcxw : wr.cell? ⟨p, po + k, none⟩ = some (.int .i64 x) := by rw [← hwr]; exact hcx
                    have hbw : b < wr.heap.size := by rw [← hwr]; exact hbz
                    have hpw : p < wr.heap.size := by rw [← hwr]; exact hpz
                    rw [hwr]
                    clear hwr
                    have Hac := Lib.hid (show a ≤ c1 by omega)
                    have Ham := Lib.hid haM
                    have Hhead := Lib.hid (show ∀ W, LeOne wr.heap.size x wr W → ReadsAt W W.heap.size 1 (some ⟨b1, off1, none⟩) a ((O.take a).map i64v) from fun W h => by
                      have h2 := (H13w.out.head a haM).below (h.low (Nat.le_refl _))
                      rw [Nat.mul_one, ← List.map_take] at h2
                      exact h2.more h.size)
                    have Htail := Lib.hid (show ∀ W, LeOne wr.heap.size x wr W → ReadsAt W W.heap.size 1 (cutA (some ⟨b1, off1, none⟩) c1 a 1) (m - a) ((O.drop a).map i64v) from fun W h => by
                      have h2 := (H13w.out.tail a haM h11).below (h.low (Nat.le_refl _))
                      rw [Nat.mul_one, ← List.map_drop] at h2
                      exact h2.more h.size)
                    have Hcr := Lib.hid (show ∀ W, LeOne wr.heap.size x wr W → W.cell? ⟨b, off + i, none⟩ = some (.slice (some ⟨p, po, none⟩) z cl) from fun W h => ((h.low (Nat.le_refl _)).cell (p := ⟨b, off + i, none⟩) hbw).trans hcrw)
                    have Hcx := Lib.hid (show ∀ W, LeOne wr.heap.size x wr W → W.cell? ⟨p, po + k, none⟩ = some (.int .i64 x) from fun W h => ((h.low (Nat.le_refl _)).cell (p := ⟨p, po + k, none⟩) hpw).trans hcxw)
                    have Hins := Lib.hid (show insAll R0 (l.take (k + 1)) = O.take a ++ [x] ++ O.drop a by
                      rw [Hsk.out, ins_at (by rw [← Hm.out]; exact haM) hlo.out Hgt.out]
                      simp)
                    clear hcrw hcxw
                    go_wp2_with fail
                    refine wp_region_stages (by kernel_rfl) ?_
                    refine anyOrder_pop rfl (by kernel_rfl) ?_
                    refine anyOrder_start [0, 4, 13, 17] (LeOne wr.heap.size x) (insW wr.heap.size O a x) (FactsOn [.any, .is (.slice (some ⟨b1, off1, none⟩) m c1), .is (.int .i64 (a : Int)), .is (.slice (some ⟨b1, off1, none⟩) a c1), .any, .is (.slice (some ⟨b, off, none⟩) n c), .is (.int .i64 (i : Int)), .is (.pointer (some ⟨b, off + i, none⟩)), .is (.slice (some ⟨p, po, none⟩) z cl), .is (.int .i64 (k : Int)), .is (.pointer (some ⟨p, po + k, none⟩)), .is (.int .i64 x), .one wr.heap.size x, .any, .is (.slice (some ⟨b1, off1, none⟩) m c1), .is (.int .i64 (a : Int)), .is (.slice (cutA (some ⟨b1, off1, none⟩) c1 a 1) (m - a) (c1 - a)), .any]) (fun i => 99) leOne_trans leOne_grow (insW.grow) (factsOn_mono _) (by kernel_rfl) (by kernel_rfl) trivial ?_ ?_
                    · refine ⟨?_, ?_, ?_, ?_, ?_, ?_, ?_, ?_, ?_, ?_, ?_, ?_, ?_, ?_, ?_, ?_, ?_, ?_, trivial⟩
                      · refine stageOf_mem (t := 0) rfl ?_
                        intro us vals w3 a' ha hle hW hd hv
                        obtain rfl := List.eq_nil_of_length_eq_zero (Nat.le_zero.1 (show vals.length ≤ 0 from Nat.le_of_eq hv))
                        refine ⟨wanted_none rfl, fun K hK => ?_⟩
                        exact step_value (v := .slice (some ⟨w3.heap.size, 0, none⟩) 0 0) (w2 := w3.alloc (.cells #[] 3)) (by go_simp) (hK _ _ (leOne_grow _ _ (Grow.alloc _ _)) ⟨World.ownsRow_lit w3 #[] 0 hle.size (by decide) rfl, _, rfl⟩)
                      · refine stageOf_free rfl (fun _ _ _ _ _ _ => wanted_none rfl) ?_
                        intro us vals w3 a' ha hle hW hd hv K hK
                        have q3 : a'.tmps[3]? = some (.slice (some ⟨b1, off1, none⟩) m c1) := slot_old ha (by kernel_rfl) (by kernel_rfl)
                        exact step_value (w2 := w3) (by go_simp) (hK _ _ (Grow.refl _) rfl)
                      · refine stageOf_free rfl (fun _ _ _ _ _ _ => wanted_none rfl) ?_
                        intro us vals w3 a' ha hle hW hd hv K hK
                        have q6 : a'.tmps[6]? = some (.int .i64 (a : Int)) := slot_old ha (by kernel_rfl) (by kernel_rfl)
                        exact step_value (w2 := w3) (by go_simp) (hK _ _ (Grow.refl _) rfl)
                      · refine stageOf_free rfl (fun _ _ _ _ _ _ => wanted_none rfl) ?_
                        intro us vals w3 a' ha hle hW hd hv K hK
                        obtain ⟨d1, d2, _⟩ := hd
                        have q61 : a'.tmps[61]? = some (us 1) := slot_get ha 1 (by kernel_rfl) (by kernel_rfl)
                        rw [show us 1 = .slice (some ⟨b1, off1, none⟩) m c1 from d1] at q61
                        have q62 : a'.tmps[62]? = some (us 2) := slot_get ha 2 (by kernel_rfl) (by kernel_rfl)
                        rw [show us 2 = .int .i64 (a : Int) from d2] at q62
                        refine step_value (v := .slice (some ⟨b1, off1, none⟩) a c1) (w2 := w3) ?_ (hK _ _ (Grow.refl _) rfl)
                        have h9 := run_cut_head intsTy (some ⟨b1, off1, none⟩) m c1 a .i64 (a : Int) rfl Hac.out w3
                        simp only [execOp, Option.map_some, Option.map_none, evalT q61, evalT q62, Sem.run_bind, run_at intsTy, h9, Result.andThen_ok, Sem.run_pure]
                      · refine stageOf_mem (t := 1) rfl ?_
                        intro us vals w3 a' ha hle hW hd hv
                        obtain ⟨d0, d3, _⟩ := hd
                        obtain ⟨x0, rfl⟩ := List.length_eq_one_iff.1 hv
                        obtain rfl : us 0 = x0 := by have h0 : some x0 = some (us 0) := d0; injection h0 with h0; exact h0.symm
                        refine ⟨wanted_none rfl, fun K hK => ?_⟩
                        have q60 : a'.tmps[60]? = some (us 0) := slot_get ha 0 (by kernel_rfl) (by kernel_rfl)
                        have q63 : a'.tmps[63]? = some (us 3) := slot_get ha 3 (by kernel_rfl) (by kernel_rfl)
                        rw [show us 3 = .slice (some ⟨b1, off1, none⟩) a c1 from d3] at q63
                        refine wp_append_two w3 (.tmp 60) (.tmp 63) rfl intsTy (evalT q60) hW.1 (evalT q63) (Hhead.out w3 hle) (i64_one _) (by have := Hmb.out; simp only [maxLen]; omega) (by have := Hmb.out; omega) hle.size ?_
                        intro v2 w4 ho htw
                        refine hK _ _ (two_one hW.1 ho htw (Or.inl hW.2)) ?_
                        rw [Nat.zero_add, List.nil_append] at ho
                        exact ho
                      · refine stageOf_free rfl (fun _ _ _ _ _ _ => wanted_none rfl) ?_
                        intro us vals w3 a' ha hle hW hd hv K hK
                        have q0 : a'.tmps[0]? = some (.slice (some ⟨b, off, none⟩) n c) := slot_old ha (by kernel_rfl) (by kernel_rfl)
                        exact step_value (w2 := w3) (by go_simp) (hK _ _ (Grow.refl _) rfl)
                      · refine stageOf_free rfl (fun _ _ _ _ _ _ => wanted_none rfl) ?_
                        intro us vals w3 a' ha hle hW hd hv K hK
                        have q4 : a'.tmps[4]? = some (.int .i64 (i : Int)) := slot_old ha (by kernel_rfl) (by kernel_rfl)
                        exact step_value (w2 := w3) (by go_simp) (hK _ _ (Grow.refl _) rfl)
                      · refine stageOf_free rfl (fun _ _ _ _ _ _ => wanted_none rfl) ?_
                        intro us vals w3 a' ha hle hW hd hv K hK
                        obtain ⟨d5, d6, _⟩ := hd
                        have q65 : a'.tmps[65]? = some (us 5) := slot_get ha 5 (by kernel_rfl) (by kernel_rfl)
                        rw [show us 5 = .slice (some ⟨b, off, none⟩) n c from d5] at q65
                        have q66 : a'.tmps[66]? = some (us 6) := slot_get ha 6 (by kernel_rfl) (by kernel_rfl)
                        rw [show us 6 = .int .i64 (i : Int) from d6] at q66
                        refine step_value (v := .pointer (some ⟨b, off + i, none⟩)) (w2 := w3) ?_ (hK _ _ (Grow.refl _) rfl)
                        go_simp
                      · refine stageOf_free rfl (fun _ _ _ _ _ _ => wanted_none rfl) ?_
                        intro us vals w3 a' ha hle hW hd hv K hK
                        obtain ⟨d7, _⟩ := hd
                        have q67 : a'.tmps[67]? = some (us 7) := slot_get ha 7 (by kernel_rfl) (by kernel_rfl)
                        rw [show us 7 = .pointer (some ⟨b, off + i, none⟩) from d7] at q67
                        have hc := Hcr.out w3 hle
                        refine step_value (v := .slice (some ⟨p, po, none⟩) z cl) (w2 := w3) ?_ (hK _ _ (Grow.refl _) rfl)
                        go_simp
                      · refine stageOf_free rfl (fun _ _ _ _ _ _ => wanted_none rfl) ?_
                        intro us vals w3 a' ha hle hW hd hv K hK
                        have q5 : a'.tmps[5]? = some (.int .i64 (k : Int)) := slot_old ha (by kernel_rfl) (by kernel_rfl)
                        exact step_value (w2 := w3) (by go_simp) (hK _ _ (Grow.refl _) rfl)
                      · refine stageOf_free rfl (fun _ _ _ _ _ _ => wanted_none rfl) ?_
                        intro us vals w3 a' ha hle hW hd hv K hK
                        obtain ⟨d8, d9, _⟩ := hd
                        have q68 : a'.tmps[68]? = some (us 8) := slot_get ha 8 (by kernel_rfl) (by kernel_rfl)
                        rw [show us 8 = .slice (some ⟨p, po, none⟩) z cl from d8] at q68
                        have q69 : a'.tmps[69]? = some (us 9) := slot_get ha 9 (by kernel_rfl) (by kernel_rfl)
                        rw [show us 9 = .int .i64 (k : Int) from d9] at q69
                        refine step_value (v := .pointer (some ⟨p, po + k, none⟩)) (w2 := w3) ?_ (hK _ _ (Grow.refl _) rfl)
                        go_simp
                      · refine stageOf_free rfl (fun _ _ _ _ _ _ => wanted_none rfl) ?_
                        intro us vals w3 a' ha hle hW hd hv K hK
                        obtain ⟨d10, _⟩ := hd
                        have q70 : a'.tmps[70]? = some (us 10) := slot_get ha 10 (by kernel_rfl) (by kernel_rfl)
                        rw [show us 10 = .pointer (some ⟨p, po + k, none⟩) from d10] at q70
                        have hc := Hcx.out w3 hle
                        refine step_value (v := .int .i64 x) (w2 := w3) ?_ (hK _ _ (Grow.refl _) rfl)
                        go_simp
                      · refine stageOf_free rfl (fun _ _ _ _ _ _ => wanted_none rfl) ?_
                        intro us vals w3 a' ha hle hW hd hv K hK
                        obtain ⟨d11, _⟩ := hd
                        have q71 : a'.tmps[71]? = some (us 11) := slot_get ha 11 (by kernel_rfl) (by kernel_rfl)
                        rw [show us 11 = .int .i64 x from d11] at q71
                        refine step_value (v := .slice (some ⟨w3.heap.size, 0, none⟩) 1 1) (w2 := w3.alloc (.cells #[.int .i64 x] 3)) (by go_simp) (hK _ _ (Grow.alloc _ _) ?_)
                        exact ⟨_, rfl, Blk.new _ _ _⟩
                      · refine stageOf_mem (t := 2) rfl ?_
                        intro us vals w3 a' ha hle hW hd hv
                        obtain ⟨d4, ⟨m12, u12, b12⟩, _, _⟩ := hd
                        refine ⟨wanted_none rfl, fun K hK => ?_⟩
                        have q64 : a'.tmps[64]? = some (us 4) := slot_get ha 4 (by kernel_rfl) (by kernel_rfl)
                        have q72 : a'.tmps[72]? = some (us 12) := slot_get ha 12 (by kernel_rfl) (by kernel_rfl)
                        rw [u12] at q72
                        obtain ⟨a0, a1, rfl⟩ : ∃ a0 a1, vals = [a0, a1] := by match vals, hv with | [a0, a1], _ => exact ⟨a0, a1, rfl⟩
                        have e1 : a1 = us 4 := by have h0 : some a1 = some (us 4) := d4; injection h0
                        subst e1
                        refine wp_append_two w3 (.tmp 64) (.tmp 72) rfl intsTy (evalT q64) hW (evalT q72) (one_reads b12) (by simp [Value.oneCell']) (by have := Hmb.out; simp only [maxLen]; omega) (by have := Hmb.out; omega) hle.size ?_
                        intro v2 w4 ho htw
                        refine hK _ _ (two_one hW ho htw (Or.inr ⟨by omega, fun h => ?_⟩)) ?_
                        · obtain rfl : a = 0 := by omega
                          rfl
                        · rw [show insW wr.heap.size O a x ([a0, us 4] ++ [v2]) w4 = w4.ownsRow wr.heap.size 3 1 v2 (a + 1) ((O.take a ++ [x]).map i64v) from rfl, List.map_append]
                          exact ho
                      · refine stageOf_free rfl (fun _ _ _ _ _ _ => wanted_none rfl) ?_
                        intro us vals w3 a' ha hle hW hd hv K hK
                        have q3 : a'.tmps[3]? = some (.slice (some ⟨b1, off1, none⟩) m c1) := slot_old ha (by kernel_rfl) (by kernel_rfl)
                        exact step_value (w2 := w3) (by go_simp) (hK _ _ (Grow.refl _) rfl)
                      · refine stageOf_free rfl (fun _ _ _ _ _ _ => wanted_none rfl) ?_
                        intro us vals w3 a' ha hle hW hd hv K hK
                        have q6 : a'.tmps[6]? = some (.int .i64 (a : Int)) := slot_old ha (by kernel_rfl) (by kernel_rfl)
                        exact step_value (w2 := w3) (by go_simp) (hK _ _ (Grow.refl _) rfl)
                      · refine stageOf_free rfl (fun _ _ _ _ _ _ => wanted_none rfl) ?_
                        intro us vals w3 a' ha hle hW hd hv K hK
                        obtain ⟨d14, d15, _⟩ := hd
                        have q74 : a'.tmps[74]? = some (us 14) := slot_get ha 14 (by kernel_rfl) (by kernel_rfl)
                        rw [show us 14 = .slice (some ⟨b1, off1, none⟩) m c1 from d14] at q74
                        have q75 : a'.tmps[75]? = some (us 15) := slot_get ha 15 (by kernel_rfl) (by kernel_rfl)
                        rw [show us 15 = .int .i64 (a : Int) from d15] at q75
                        refine step_value (v := .slice (cutA (some ⟨b1, off1, none⟩) c1 a 1) (m - a) (c1 - a)) (w2 := w3) ?_ (hK _ _ (Grow.refl _) rfl)
                        have h9 := run_cut_tail intsTy (some ⟨b1, off1, none⟩) m c1 a .i64 (a : Int) rfl Ham.out w3
                        simp only [execOp, Option.map_some, Option.map_none, evalT q74, evalT q75, Sem.run_bind, run_at intsTy, h9, Result.andThen_ok, Sem.run_pure]
                      · refine stageOf_mem (t := 3) rfl ?_
                        intro us vals w3 a' ha hle hW hd hv
                        obtain ⟨d13, d16, _, _⟩ := hd
                        refine ⟨wanted_none rfl, fun K hK => ?_⟩
                        have q73 : a'.tmps[73]? = some (us 13) := slot_get ha 13 (by kernel_rfl) (by kernel_rfl)
                        have q76 : a'.tmps[76]? = some (us 16) := slot_get ha 16 (by kernel_rfl) (by kernel_rfl)
                        rw [show us 16 = .slice (cutA (some ⟨b1, off1, none⟩) c1 a 1) (m - a) (c1 - a) from d16] at q76
                        obtain ⟨a0, a1, a2, rfl⟩ : ∃ a0 a1 a2, vals = [a0, a1, a2] := by match vals, hv with | [a0, a1, a2], _ => exact ⟨a0, a1, a2, rfl⟩
                        have e2 : a2 = us 13 := by have h0 : some a2 = some (us 13) := d13; injection h0
                        subst e2
                        refine wp_append_two w3 (.tmp 73) (.tmp 76) rfl intsTy (evalT q73) hW (evalT q76) (Htail.out w3 hle) (i64_one _) (by have := Hmb.out; have := Ham.out; simp only [maxLen]; omega) (by have := Hmb.out; have := Ham.out; omega) hle.size ?_
                        intro v2 w4 ho htw
                        refine hK _ _ (two_one hW ho htw (Or.inr ⟨by omega, fun h => ?_⟩)) ?_
                        · have h9 := Ham.out
                          have h8 := Hm.out
                          obtain rfl : O = [] := List.eq_nil_of_length_eq_zero (by omega)
                          obtain rfl : a = 0 := by omega
                          rfl
                        · rw [show insW wr.heap.size O a x ([a0, a1, us 13] ++ [v2]) w4 = w4.ownsRow wr.heap.size 3 1 v2 (O.length + 1) ((O.take a ++ [x] ++ O.drop a).map i64v) from rfl, List.map_append, ← Hm.out]
                          have h9 := Ham.out
                          rw [show m + 1 = a + 1 + (m - a) by omega]
                          exact ho
                    · intro us vals w5 hle hvl hW ht hf
                      have e3 := ht 3 (by rw [hvl]; decide)
                      obtain ⟨q0, q1, q2, q3, rfl⟩ : ∃ q0 q1 q2 q3, vals = [q0, q1, q2, q3] := by match vals, hvl with | [q0, q1, q2, q3], _ => exact ⟨q0, q1, q2, q3, rfl⟩
                      have e4 : q3 = us 17 := by injection e3
                      subst e4
                      have hfin : w5.ownsRow w.heap.size 3 1 (us 17) (insAll R0 (l.take (k + 1))).length ((insAll R0 (l.take (k + 1))).map i64v) := by
                        rw [Hins.out]
                        have e5 : (O.take a ++ [x] ++ O.drop a).length = O.length + 1 := by
                          have := Ham.out
                          have := Hm.out
                          simp only [List.length_append, List.length_take, List.length_drop, List.length_cons, List.length_nil]
                          omega
                        rw [e5]
                        exact own_base hW hgw.out.size
                      have hbel : Below w.heap.size w w5 := Below.trans hgw.out (Below.mono (hle.low (Nat.le_refl _)) hgw.out.size)
                      refine lastQ.assign_g (v := us 17) (s := 77) rfl (by kernel_rfl) ?_
                      intro g hg
                      exact hMx _ _ (Met.intro (hJx _ _ ⟨us 17, g 6, g 22, g 23, g 24, g 25, g 26, g 27, g 28, g 29, g 30, g 31, g 32, g 33, g 34, g 35, g 36, g 37, g 38, g 39, g 40, g 41, g 42, g 43, g 44, g 45, g 46, g 47, g 48, g 49, g 50, g 51, g 52, g 53, g 54, g 55, g 56, g 57, g 58, g 59, us 0, us 1, us 2, us 3, us 4, us 5, us 6, us 7, us 8, us 9, us 10, us 11, us 12, us 13, us 14, us 15, us 16, us 17, ⟨_, rfl, hfin, hbel⟩, by rw [hg]; kernel_rfl⟩))
              · have d3 : decide ((a : Int) < (m : Int)) = false := decide_eq_false (by omega)
                have d5 : ((a : Int) == (m : Int)) = true := by rw [show a = m by omega]; simp
                have Hgt := Lib.hid (show ∀ y, O[a]? = some y → x < y from fun y hy => by have := (List.getElem?_eq_some_iff.1 hy).1; have := Hm.out; omega)
                go_wp2_with fail
                go_quiet (fail)
                obtain ⟨nq1, rfl⟩ : ∃ z, z = nq := ⟨_, rfl⟩
                go_wp2_with fail
                go_quiet (fail)
                obtain ⟨wr, hwr⟩ : ∃ wr, ((wi.drewN q).drewN nq1).drewN nq = wr := ⟨_, rfl⟩
                have H13w : Hid (ReadsAt wr wr.heap.size 1 A1 m (O.map i64v)) := by rw [← hwr]; exact H13
                have hgw : Hid (Below w.heap.size w wr) := by rw [← hwr]; exact Below.trans hg.out (Below.mono (show Grow wi (((wi.drewN q).drewN nq1).drewN nq) from ⟨rfl, rfl, rfl, Nat.le_refl _, fun _ _ => rfl⟩) hg.out.size)
                have how : Hid (wr.ownsRow w.heap.size 3 1 (.slice A1 m c1) m (O.map i64v)) := by rw [← hwr]; exact ho
                have hcrw : wr.cell? ⟨b, off + i, none⟩ = some (.slice (some ⟨p, po, none⟩) z cl) := by rw [← hwr]; exact hcr
                have hcxw : wr.cell? ⟨p, po + k, none⟩ = some (.int .i64 x) := by rw [← hwr]; exact hcx
                have hbw : b < wr.heap.size := by rw [← hwr]; exact hbz
                have hpw : p < wr.heap.size := by rw [← hwr]; exact hpz
                rw [hwr]
                clear hwr
                have Hac := Lib.hid (show a ≤ c1 by omega)
                have Ham := Lib.hid haM
                have Hhead := Lib.hid (show ∀ W, LeOne wr.heap.size x wr W → ReadsAt W W.heap.size 1 A1 a ((O.take a).map i64v) from fun W h => by
                  have h2 := (H13w.out.head a haM).below (h.low (Nat.le_refl _))
                  rw [Nat.mul_one, ← List.map_take] at h2
                  exact h2.more h.size)
                have Htail := Lib.hid (show ∀ W, LeOne wr.heap.size x wr W → ReadsAt W W.heap.size 1 (cutA A1 c1 a 1) (m - a) ((O.drop a).map i64v) from fun W h => by
                  have h2 := (H13w.out.tail a haM h11).below (h.low (Nat.le_refl _))
                  rw [Nat.mul_one, ← List.map_drop] at h2
                  exact h2.more h.size)
                have Hcr := Lib.hid (show ∀ W, LeOne wr.heap.size x wr W → W.cell? ⟨b, off + i, none⟩ = some (.slice (some ⟨p, po, none⟩) z cl) from fun W h => ((h.low (Nat.le_refl _)).cell (p := ⟨b, off + i, none⟩) hbw).trans hcrw)
                have Hcx := Lib.hid (show ∀ W, LeOne wr.heap.size x wr W → W.cell? ⟨p, po + k, none⟩ = some (.int .i64 x) from fun W h => ((h.low (Nat.le_refl _)).cell (p := ⟨p, po + k, none⟩) hpw).trans hcxw)
                have Hins := Lib.hid (show insAll R0 (l.take (k + 1)) = O.take a ++ [x] ++ O.drop a by
                  rw [Hsk.out, ins_at (by rw [← Hm.out]; exact haM) hlo.out Hgt.out]
                  simp)
                clear hcrw hcxw
                go_wp2_with fail
                refine wp_region_stages (by kernel_rfl) ?_
                refine anyOrder_pop rfl (by kernel_rfl) ?_
                refine anyOrder_start [0, 4, 13, 17] (LeOne wr.heap.size x) (insW wr.heap.size O a x) (FactsOn [.any, .is (.slice A1 m c1), .is (.int .i64 (a : Int)), .is (.slice A1 a c1), .any, .is (.slice (some ⟨b, off, none⟩) n c), .is (.int .i64 (i : Int)), .is (.pointer (some ⟨b, off + i, none⟩)), .is (.slice (some ⟨p, po, none⟩) z cl), .is (.int .i64 (k : Int)), .is (.pointer (some ⟨p, po + k, none⟩)), .is (.int .i64 x), .one wr.heap.size x, .any, .is (.slice A1 m c1), .is (.int .i64 (a : Int)), .is (.slice (cutA A1 c1 a 1) (m - a) (c1 - a)), .any]) (fun i => 99) leOne_trans leOne_grow (insW.grow) (factsOn_mono _) (by kernel_rfl) (by kernel_rfl) trivial ?_ ?_
                · refine ⟨?_, ?_, ?_, ?_, ?_, ?_, ?_, ?_, ?_, ?_, ?_, ?_, ?_, ?_, ?_, ?_, ?_, ?_, trivial⟩
                  · refine stageOf_mem (t := 0) rfl ?_
                    intro us vals w3 a' ha hle hW hd hv
                    obtain rfl := List.eq_nil_of_length_eq_zero (Nat.le_zero.1 (show vals.length ≤ 0 from Nat.le_of_eq hv))
                    refine ⟨wanted_none rfl, fun K hK => ?_⟩
                    exact step_value (v := .slice (some ⟨w3.heap.size, 0, none⟩) 0 0) (w2 := w3.alloc (.cells #[] 3)) (by go_simp) (hK _ _ (leOne_grow _ _ (Grow.alloc _ _)) ⟨World.ownsRow_lit w3 #[] 0 hle.size (by decide) rfl, _, rfl⟩)
                  · refine stageOf_free rfl (fun _ _ _ _ _ _ => wanted_none rfl) ?_
                    intro us vals w3 a' ha hle hW hd hv K hK
                    have q3 : a'.tmps[3]? = some (.slice A1 m c1) := slot_old ha (by kernel_rfl) (by kernel_rfl)
                    exact step_value (w2 := w3) (by go_simp) (hK _ _ (Grow.refl _) rfl)
                  · refine stageOf_free rfl (fun _ _ _ _ _ _ => wanted_none rfl) ?_
                    intro us vals w3 a' ha hle hW hd hv K hK
                    have q6 : a'.tmps[6]? = some (.int .i64 (a : Int)) := slot_old ha (by kernel_rfl) (by kernel_rfl)
                    exact step_value (w2 := w3) (by go_simp) (hK _ _ (Grow.refl _) rfl)
                  · refine stageOf_free rfl (fun _ _ _ _ _ _ => wanted_none rfl) ?_
                    intro us vals w3 a' ha hle hW hd hv K hK
                    obtain ⟨d1, d2, _⟩ := hd
                    have q61 : a'.tmps[61]? = some (us 1) := slot_get ha 1 (by kernel_rfl) (by kernel_rfl)
                    rw [show us 1 = .slice A1 m c1 from d1] at q61
                    have q62 : a'.tmps[62]? = some (us 2) := slot_get ha 2 (by kernel_rfl) (by kernel_rfl)
                    rw [show us 2 = .int .i64 (a : Int) from d2] at q62
                    refine step_value (v := .slice A1 a c1) (w2 := w3) ?_ (hK _ _ (Grow.refl _) rfl)
                    have h9 := run_cut_head intsTy A1 m c1 a .i64 (a : Int) rfl Hac.out w3
                    simp only [execOp, Option.map_some, Option.map_none, evalT q61, evalT q62, Sem.run_bind, run_at intsTy, h9, Result.andThen_ok, Sem.run_pure]
                  · refine stageOf_mem (t := 1) rfl ?_
                    intro us vals w3 a' ha hle hW hd hv
                    obtain ⟨d0, d3, _⟩ := hd
                    obtain ⟨x0, rfl⟩ := List.length_eq_one_iff.1 hv
                    obtain rfl : us 0 = x0 := by have h0 : some x0 = some (us 0) := d0; injection h0 with h0; exact h0.symm
                    refine ⟨wanted_none rfl, fun K hK => ?_⟩
                    have q60 : a'.tmps[60]? = some (us 0) := slot_get ha 0 (by kernel_rfl) (by kernel_rfl)
                    have q63 : a'.tmps[63]? = some (us 3) := slot_get ha 3 (by kernel_rfl) (by kernel_rfl)
                    rw [show us 3 = .slice A1 a c1 from d3] at q63
                    refine wp_append_two w3 (.tmp 60) (.tmp 63) rfl intsTy (evalT q60) hW.1 (evalT q63) (Hhead.out w3 hle) (i64_one _) (by have := Hmb.out; simp only [maxLen]; omega) (by have := Hmb.out; omega) hle.size ?_
                    intro v2 w4 ho htw
                    refine hK _ _ (two_one hW.1 ho htw (Or.inl hW.2)) ?_
                    rw [Nat.zero_add, List.nil_append] at ho
                    exact ho
                  · refine stageOf_free rfl (fun _ _ _ _ _ _ => wanted_none rfl) ?_
                    intro us vals w3 a' ha hle hW hd hv K hK
                    have q0 : a'.tmps[0]? = some (.slice (some ⟨b, off, none⟩) n c) := slot_old ha (by kernel_rfl) (by kernel_rfl)
                    exact step_value (w2 := w3) (by go_simp) (hK _ _ (Grow.refl _) rfl)
                  · refine stageOf_free rfl (fun _ _ _ _ _ _ => wanted_none rfl) ?_
                    intro us vals w3 a' ha hle hW hd hv K hK
                    have q4 : a'.tmps[4]? = some (.int .i64 (i : Int)) := slot_old ha (by kernel_rfl) (by kernel_rfl)
                    exact step_value (w2 := w3) (by go_simp) (hK _ _ (Grow.refl _) rfl)
                  · refine stageOf_free rfl (fun _ _ _ _ _ _ => wanted_none rfl) ?_
                    intro us vals w3 a' ha hle hW hd hv K hK
                    obtain ⟨d5, d6, _⟩ := hd
                    have q65 : a'.tmps[65]? = some (us 5) := slot_get ha 5 (by kernel_rfl) (by kernel_rfl)
                    rw [show us 5 = .slice (some ⟨b, off, none⟩) n c from d5] at q65
                    have q66 : a'.tmps[66]? = some (us 6) := slot_get ha 6 (by kernel_rfl) (by kernel_rfl)
                    rw [show us 6 = .int .i64 (i : Int) from d6] at q66
                    refine step_value (v := .pointer (some ⟨b, off + i, none⟩)) (w2 := w3) ?_ (hK _ _ (Grow.refl _) rfl)
                    go_simp
                  · refine stageOf_free rfl (fun _ _ _ _ _ _ => wanted_none rfl) ?_
                    intro us vals w3 a' ha hle hW hd hv K hK
                    obtain ⟨d7, _⟩ := hd
                    have q67 : a'.tmps[67]? = some (us 7) := slot_get ha 7 (by kernel_rfl) (by kernel_rfl)
                    rw [show us 7 = .pointer (some ⟨b, off + i, none⟩) from d7] at q67
                    have hc := Hcr.out w3 hle
                    refine step_value (v := .slice (some ⟨p, po, none⟩) z cl) (w2 := w3) ?_ (hK _ _ (Grow.refl _) rfl)
                    go_simp
                  · refine stageOf_free rfl (fun _ _ _ _ _ _ => wanted_none rfl) ?_
                    intro us vals w3 a' ha hle hW hd hv K hK
                    have q5 : a'.tmps[5]? = some (.int .i64 (k : Int)) := slot_old ha (by kernel_rfl) (by kernel_rfl)
                    exact step_value (w2 := w3) (by go_simp) (hK _ _ (Grow.refl _) rfl)
                  · refine stageOf_free rfl (fun _ _ _ _ _ _ => wanted_none rfl) ?_
                    intro us vals w3 a' ha hle hW hd hv K hK
                    obtain ⟨d8, d9, _⟩ := hd
                    have q68 : a'.tmps[68]? = some (us 8) := slot_get ha 8 (by kernel_rfl) (by kernel_rfl)
                    rw [show us 8 = .slice (some ⟨p, po, none⟩) z cl from d8] at q68
                    have q69 : a'.tmps[69]? = some (us 9) := slot_get ha 9 (by kernel_rfl) (by kernel_rfl)
                    rw [show us 9 = .int .i64 (k : Int) from d9] at q69
                    refine step_value (v := .pointer (some ⟨p, po + k, none⟩)) (w2 := w3) ?_ (hK _ _ (Grow.refl _) rfl)
                    go_simp
                  · refine stageOf_free rfl (fun _ _ _ _ _ _ => wanted_none rfl) ?_
                    intro us vals w3 a' ha hle hW hd hv K hK
                    obtain ⟨d10, _⟩ := hd
                    have q70 : a'.tmps[70]? = some (us 10) := slot_get ha 10 (by kernel_rfl) (by kernel_rfl)
                    rw [show us 10 = .pointer (some ⟨p, po + k, none⟩) from d10] at q70
                    have hc := Hcx.out w3 hle
                    refine step_value (v := .int .i64 x) (w2 := w3) ?_ (hK _ _ (Grow.refl _) rfl)
                    go_simp
                  · refine stageOf_free rfl (fun _ _ _ _ _ _ => wanted_none rfl) ?_
                    intro us vals w3 a' ha hle hW hd hv K hK
                    obtain ⟨d11, _⟩ := hd
                    have q71 : a'.tmps[71]? = some (us 11) := slot_get ha 11 (by kernel_rfl) (by kernel_rfl)
                    rw [show us 11 = .int .i64 x from d11] at q71
                    refine step_value (v := .slice (some ⟨w3.heap.size, 0, none⟩) 1 1) (w2 := w3.alloc (.cells #[.int .i64 x] 3)) (by go_simp) (hK _ _ (Grow.alloc _ _) ?_)
                    exact ⟨_, rfl, Blk.new _ _ _⟩
                  · refine stageOf_mem (t := 2) rfl ?_
                    intro us vals w3 a' ha hle hW hd hv
                    obtain ⟨d4, ⟨m12, u12, b12⟩, _, _⟩ := hd
                    refine ⟨wanted_none rfl, fun K hK => ?_⟩
                    have q64 : a'.tmps[64]? = some (us 4) := slot_get ha 4 (by kernel_rfl) (by kernel_rfl)
                    have q72 : a'.tmps[72]? = some (us 12) := slot_get ha 12 (by kernel_rfl) (by kernel_rfl)
                    rw [u12] at q72
                    obtain ⟨a0, a1, rfl⟩ : ∃ a0 a1, vals = [a0, a1] := by match vals, hv with | [a0, a1], _ => exact ⟨a0, a1, rfl⟩
                    have e1 : a1 = us 4 := by have h0 : some a1 = some (us 4) := d4; injection h0
                    subst e1
                    refine wp_append_two w3 (.tmp 64) (.tmp 72) rfl intsTy (evalT q64) hW (evalT q72) (one_reads b12) (by simp [Value.oneCell']) (by have := Hmb.out; simp only [maxLen]; omega) (by have := Hmb.out; omega) hle.size ?_
                    intro v2 w4 ho htw
                    refine hK _ _ (two_one hW ho htw (Or.inr ⟨by omega, fun h => ?_⟩)) ?_
                    · obtain rfl : a = 0 := by omega
                      rfl
                    · rw [show insW wr.heap.size O a x ([a0, us 4] ++ [v2]) w4 = w4.ownsRow wr.heap.size 3 1 v2 (a + 1) ((O.take a ++ [x]).map i64v) from rfl, List.map_append]
                      exact ho
                  · refine stageOf_free rfl (fun _ _ _ _ _ _ => wanted_none rfl) ?_
                    intro us vals w3 a' ha hle hW hd hv K hK
                    have q3 : a'.tmps[3]? = some (.slice A1 m c1) := slot_old ha (by kernel_rfl) (by kernel_rfl)
                    exact step_value (w2 := w3) (by go_simp) (hK _ _ (Grow.refl _) rfl)
                  · refine stageOf_free rfl (fun _ _ _ _ _ _ => wanted_none rfl) ?_
                    intro us vals w3 a' ha hle hW hd hv K hK
                    have q6 : a'.tmps[6]? = some (.int .i64 (a : Int)) := slot_old ha (by kernel_rfl) (by kernel_rfl)
                    exact step_value (w2 := w3) (by go_simp) (hK _ _ (Grow.refl _) rfl)
                  · refine stageOf_free rfl (fun _ _ _ _ _ _ => wanted_none rfl) ?_
                    intro us vals w3 a' ha hle hW hd hv K hK
                    obtain ⟨d14, d15, _⟩ := hd
                    have q74 : a'.tmps[74]? = some (us 14) := slot_get ha 14 (by kernel_rfl) (by kernel_rfl)
                    rw [show us 14 = .slice A1 m c1 from d14] at q74
                    have q75 : a'.tmps[75]? = some (us 15) := slot_get ha 15 (by kernel_rfl) (by kernel_rfl)
                    rw [show us 15 = .int .i64 (a : Int) from d15] at q75
                    refine step_value (v := .slice (cutA A1 c1 a 1) (m - a) (c1 - a)) (w2 := w3) ?_ (hK _ _ (Grow.refl _) rfl)
                    have h9 := run_cut_tail intsTy A1 m c1 a .i64 (a : Int) rfl Ham.out w3
                    simp only [execOp, Option.map_some, Option.map_none, evalT q74, evalT q75, Sem.run_bind, run_at intsTy, h9, Result.andThen_ok, Sem.run_pure]
                  · refine stageOf_mem (t := 3) rfl ?_
                    intro us vals w3 a' ha hle hW hd hv
                    obtain ⟨d13, d16, _, _⟩ := hd
                    refine ⟨wanted_none rfl, fun K hK => ?_⟩
                    have q73 : a'.tmps[73]? = some (us 13) := slot_get ha 13 (by kernel_rfl) (by kernel_rfl)
                    have q76 : a'.tmps[76]? = some (us 16) := slot_get ha 16 (by kernel_rfl) (by kernel_rfl)
                    rw [show us 16 = .slice (cutA A1 c1 a 1) (m - a) (c1 - a) from d16] at q76
                    obtain ⟨a0, a1, a2, rfl⟩ : ∃ a0 a1 a2, vals = [a0, a1, a2] := by match vals, hv with | [a0, a1, a2], _ => exact ⟨a0, a1, a2, rfl⟩
                    have e2 : a2 = us 13 := by have h0 : some a2 = some (us 13) := d13; injection h0
                    subst e2
                    refine wp_append_two w3 (.tmp 73) (.tmp 76) rfl intsTy (evalT q73) hW (evalT q76) (Htail.out w3 hle) (i64_one _) (by have := Hmb.out; have := Ham.out; simp only [maxLen]; omega) (by have := Hmb.out; have := Ham.out; omega) hle.size ?_
                    intro v2 w4 ho htw
                    refine hK _ _ (two_one hW ho htw (Or.inr ⟨by omega, fun h => ?_⟩)) ?_
                    · have h9 := Ham.out
                      have h8 := Hm.out
                      obtain rfl : O = [] := List.eq_nil_of_length_eq_zero (by omega)
                      obtain rfl : a = 0 := by omega
                      rfl
                    · rw [show insW wr.heap.size O a x ([a0, a1, us 13] ++ [v2]) w4 = w4.ownsRow wr.heap.size 3 1 v2 (O.length + 1) ((O.take a ++ [x] ++ O.drop a).map i64v) from rfl, List.map_append, ← Hm.out]
                      have h9 := Ham.out
                      rw [show m + 1 = a + 1 + (m - a) by omega]
                      exact ho
                · intro us vals w5 hle hvl hW ht hf
                  have e3 := ht 3 (by rw [hvl]; decide)
                  obtain ⟨q0, q1, q2, q3, rfl⟩ : ∃ q0 q1 q2 q3, vals = [q0, q1, q2, q3] := by match vals, hvl with | [q0, q1, q2, q3], _ => exact ⟨q0, q1, q2, q3, rfl⟩
                  have e4 : q3 = us 17 := by injection e3
                  subst e4
                  have hfin : w5.ownsRow w.heap.size 3 1 (us 17) (insAll R0 (l.take (k + 1))).length ((insAll R0 (l.take (k + 1))).map i64v) := by
                    rw [Hins.out]
                    have e5 : (O.take a ++ [x] ++ O.drop a).length = O.length + 1 := by
                      have := Ham.out
                      have := Hm.out
                      simp only [List.length_append, List.length_take, List.length_drop, List.length_cons, List.length_nil]
                      omega
                    rw [e5]
                    exact own_base hW hgw.out.size
                  have hbel : Below w.heap.size w w5 := Below.trans hgw.out (Below.mono (hle.low (Nat.le_refl _)) hgw.out.size)
                  refine lastQ.assign_g (v := us 17) (s := 77) rfl (by kernel_rfl) ?_
                  intro g hg
                  exact hMx _ _ (Met.intro (hJx _ _ ⟨us 17, g 6, g 22, g 23, g 24, g 25, g 26, g 27, g 28, g 29, g 30, g 31, g 32, g 33, g 34, g 35, g 36, g 37, g 38, g 39, g 40, g 41, g 42, g 43, g 44, g 45, g 46, g 47, g 48, g 49, g 50, g 51, g 52, g 53, g 54, g 55, g 56, g 57, g 58, g 59, us 0, us 1, us 2, us 3, us 4, us 5, us 6, us 7, us 8, us 9, us 10, us 11, us 12, us 13, us 14, us 15, us 16, us 17, ⟨_, rfl, hfin, hbel⟩, by rw [hg]; kernel_rfl⟩))
          case rest =>
            obtain ⟨v, rfl, ho3, hg3⟩ := hcut
            go_wp2
            go_roundw
            case rel => exact ⟨k + 1, _, by have := Hz.out; omega, rfl, by go_num, ho3, hg3⟩
            case measure => have := Hz.out; simp [intOf]; omega
        · have d2 : decide ((k : Int) < (z : Int)) = false := decide_eq_false (by omega)
          have Hfin := Lib.hid (show insAll R0 (l.take k) = (ls.take (i + 1)).foldl insAll [] by
            rw [Hsn.out, List.take_of_length_le (show l.length ≤ k by rw [← Hz.out]; omega)])
          rw [Hfin.out] at ho
          go_wp2
          go_roundw
          case rel => exact ⟨i + 1, _, by omega, rfl, by go_num, ho, hg⟩
          case measure => simp [intOf]; omega
    · have d1 : decide ((i : Int) < (n : Int)) = false := decide_eq_false (by omega)
      have Hfin := Lib.hid (show (ls.take i).foldl insAll [] = joinL ls by rw [List.take_of_length_le (by rw [Hlen.out]; omega)]; rfl)
      rw [Hfin.out] at ho
      go_wp2
      go_ret
      exact ⟨_, rfl, ho.out, hg.out⟩
end Go.Proofs.Ythjnggclemhgkaa
