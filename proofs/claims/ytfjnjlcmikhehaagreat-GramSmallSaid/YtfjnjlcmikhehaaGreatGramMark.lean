/-
  The walks of mudlarkkit's markText, markPlace, markPosting; SamePlaces, SamePosting, SamePostings.
-/
import Derived.Test.YtfjnjlcmikhehaaGreatGramHas
import Derived.Test.YtfjnjlcmikhehaaGreatGramPost
import Derived.Test.YtfjnjlcmikhehaaGreatBaseE
import Derived.Laws.BytesArg
import Derived.Deep.MidRow
import Derived.Deep.CutBlock
import Derived.Deep.CutRange
import Derived.Deep.DeepCutAuto
import Derived.BigQuiet
import Derived.IntWalk
namespace Go.Proofs.YtfjnjlcmikhehaaGreat
open Go.RowKit Go.Shelf GramM
set_option linter.unusedVariables false
theorem ReadsAt.madeS (w : World) (t s : Nat) (cs : List Value) (h : cs.length = 1 * s) : ReadsAt (w.alloc (.cells cs.toArray t)) (w.heap.size + 1) s (some ⟨w.heap.size, 0, none⟩) 1 cs := readsP w t s cs h
theorem Grow.blkOf {w w1 : World} (hg : Grow w w1) {k t : Nat} {cs : Array Value} (h : Blk w k t cs) : Blk w1 k t cs := h.below hg h.lt
/-- the mark of a place among texts -/
def mkT (k i : Nat) : ByteArray := strOfNums [35, (k : Int) % 256, (k : Int) / 256 % 256, (k : Int) / 65536, 47, (i : Int) % 256, (i : Int) / 256 % 256, (i : Int) / 65536 % 256]
theorem two_range {w : World} {b o : Nat} {u v : Value} (h1 : w.cell? ⟨b, o, none⟩ = some u) (h2 : w.cell? ⟨b, o + 1, none⟩ = some v) : w.rangeAt b o [u, v] := fun j x hx => by
  rcases j with _ | _ | j
  · injection hx with hx
    rw [← hx]
    exact h1
  · injection hx with hx
    rw [← hx]
    exact h2
  · simp at hx
theorem plC_len (l : List Nat) : (plC l).length = l.length * 2 := by
  induction l with
  | nil => rfl
  | cons h t ih =>
    show ([Value.int .i64 0, .int .i64 (h : Int)] ++ plC t).length = _
    rw [List.length_append, ih, List.length_cons]
    simp only [List.length_cons, List.length_nil]
    omega
theorem plC_get : ∀ {l : List Nat} {j p : Nat}, l[j]? = some p → (plC l)[j * 2]? = some (.int .i64 0) ∧ (plC l)[j * 2 + 1]? = some (.int .i64 (p : Int))
  | [], j, p, h => by simp at h
  | h :: t, 0, p, e => by
    injection e with e
    subst e
    exact ⟨rfl, rfl⟩
  | h :: t, j + 1, p, e => by
    have := plC_get (l := t) (j := j) (p := p) (by simpa using e)
    rw [show (j + 1) * 2 = j * 2 + 2 by omega]
    exact this
set_option maxRecDepth 100000 in
set_option maxHeartbeats 1000000 in
theorem markText_any (k i : Nat) (w : World) (hk : k ≤ 1000000) (hi : i ≤ 1000000000) :
    Calls Tryz.prog 59 #[.int .i64 (k : Int), .int .i64 (i : Int)] w fun e w' => e = .returned (.string (mkT k i)) ∧ Grow w w' := by
  have hcv : ∀ W, (∀ j, j < 8 → W.cell? ⟨w.heap.size, 0 + j, none⟩ = some (.int .u8 (([35, (k : Int) % 256, (k : Int) / 256 % 256, (k : Int) / 65536, 47, (i : Int) % 256, (i : Int) / 256 % 256, (i : Int) / 65536 % 256] : List Int).getD j 0))) → (convert 22 9 (.slice (some ⟨w.heap.size, 0, none⟩) 8 8)).run Tryz.prog W = .ok (.string (mkT k i)) W := fun W h =>
    run_convert_bytes_arg (P := Tryz.prog) W 22 5 Tryz.underlying22 Tryz.underlying5 w.heap.size 0 8 8 [35, (k : Int) % 256, (k : Int) / 256 % 256, (k : Int) / 65536, 47, (i : Int) % 256, (i : Int) / 256 % 256, (i : Int) / 65536 % 256] rfl h 9 Tryz.underlying9
  obtain ⟨m, hm⟩ : ∃ m, m = mkT k i := ⟨_, rfl⟩
  rw [← hm] at hcv ⊢
  have Hcv := Lib.hid hcv
  clear hcv hm
  go_enter Tryz.func59, Tryz.ntmps59
  go_wp2_with fail
  obtain ⟨W, hW⟩ : ∃ W, w.alloc (.cells #[.int .u8 35, .int .u8 ((k : Int) % 256), .int .u8 ((k : Int) / 256 % 256), .int .u8 ((k : Int) / 65536), .int .u8 47, .int .u8 ((i : Int) % 256), .int .u8 ((i : Int) / 256 % 256), .int .u8 ((i : Int) / 65536 % 256)] 5) = W := ⟨_, rfl⟩
  have hg : Grow w W := by rw [← hW]; exact Grow.alloc _ _
  have hb : Blk W w.heap.size 5 #[.int .u8 35, .int .u8 ((k : Int) % 256), .int .u8 ((k : Int) / 256 % 256), .int .u8 ((k : Int) / 65536), .int .u8 47, .int .u8 ((i : Int) % 256), .int .u8 ((i : Int) / 256 % 256), .int .u8 ((i : Int) / 65536 % 256)] := by rw [← hW]; exact Blk.new _ _ _
  rw [hW, Hcv.out W (fun j hj => by
    rw [hb.cell]
    rcases j with _ | _ | _ | _ | _ | _ | _ | _ | j
    · rfl
    · rfl
    · rfl
    · rfl
    · rfl
    · rfl
    · rfl
    · rfl
    · omega)]
  clear hW hb
  simp only [Result.andThen]
  rw [Oper.upon_value]
  go_wp2_with fail
  go_ret
  exact ⟨rfl, hg⟩
set_option maxRecDepth 100000 in
set_option maxHeartbeats 1000000 in
theorem markPlace_any (k i : Nat) (w : World) (hk : k ≤ 1000000) (hi : i ≤ 1000000000) :
    Calls Tryz.prog 68 #[.int .i64 (k : Int), .int .i64 (i : Int)] w fun e w' => e = .returned (.agg #[.int .i64 0, .int .i64 (markI (k : Int) (i : Int))]) ∧ Grow w w' := by
  go_enter Tryz.func68, Tryz.ntmps68
  go_wp2_with fail
  refine (mark_any (k : Int) (i : Int) _ (by omega) (by omega) (by omega) (by omega)).mono ?_
  rintro e w1 ⟨rfl, rfl⟩
  go_wp2_with fail
  have hPf : Blk (w.alloc (.cells #[.int .i64 0, .int .i64 (markI (k : Int) (i : Int))] 44)) w.heap.size 44 #[.int .i64 0, .int .i64 (markI (k : Int) (i : Int))] := Blk.new _ _ _
  exact bodyPost_ret (results_cell_row rfl _ _ w.heap.size 44 _ (0, 0) _ rfl hPf Tryz.underlying44 rfl (by kernel_rfl)) rfl ⟨rfl, Grow.alloc _ _⟩
set_option maxRecDepth 100000 in
set_option maxHeartbeats 1000000 in
theorem markPosting_any (k i : Nat) (w : World) (hk : k ≤ 1000000) (hi : i ≤ 1000000000) :
    Calls Tryz.prog 69 #[.int .i64 (k : Int), .int .i64 (i : Int)] w fun e w' => e = .returned (.agg #[.string (mkT k i), .slice none 0 0]) ∧ Grow w w' := by
  go_enter Tryz.func69, Tryz.ntmps69
  go_wp2_with fail
  refine (markText_any k i _ hk hi).mono ?_
  rintro e w1 ⟨rfl, hg⟩
  have hb : Blk w1 w.heap.size 42 #[.string .empty, .slice none 0 0] := (Keep.grow (S := fun _ => False) hg).blk (Blk.new w _ _) (fun h => h)
  have hb0 := hb.cell 0
  have hb1 := hb.cell 1
  have hf0 := hb.frozen 0
  have hf1 := hb.frozen 1
  have Hb := Lib.hid hb
  have Hg := Lib.hid hg
  clear hb hg
  go_wp2_with fail
  have hb2 := (Hb.out.set 0 (.string (mkT k i))).set 1 (.slice none 0 0)
  have hPf : Blk ((w1.setCell ⟨w.heap.size, 0, none⟩ (.string (mkT k i))).setCell ⟨w.heap.size, 1, none⟩ (.slice none 0 0)) w.heap.size 42 #[.string (mkT k i), .slice none 0 0] := hb2
  have hgw : Grow w w1 := (Grow.alloc w _).trans Hg.out
  exact bodyPost_ret (results_cell_row rfl _ _ w.heap.size 42 _ (0, 0) _ rfl hPf Tryz.underlying42 rfl (by kernel_rfl)) rfl ⟨rfl, Below.setCell (Below.setCell hgw (Nat.le_refl _) _) (Nat.le_refl _) _⟩
set_option maxRecDepth 100000 in
set_option maxHeartbeats 1000000 in
theorem SamePlaces_any (w : World) (B B2 : Nat) (A A2 : Option Addr) (n c n2 c2 : Nat) (l l2 : List Nat) (hR : ReadsAt w B 2 A n (plC l)) (hR2 : ReadsAt w B2 2 A2 n2 (plC l2)) (hc : n ≤ maxLen) (hc2 : n2 ≤ maxLen) (hBw : B ≤ w.heap.size) (hBw2 : B2 ≤ w.heap.size) :
    Calls Tryz.prog 32 #[.slice A n c, .slice A2 n2 c2] w fun e w' => ∃ b : Bool, e = .returned (.bool b) ∧ (b = true ↔ l = l2) ∧ Grow w w' := by
  unfold maxLen at hc hc2
  have hl0 : l.length = n := by have := hR.1; rw [plC_len] at this; omega
  have hl20 : l2.length = n2 := by have := hR2.1; rw [plC_len] at this; omega
  by_cases hn : n = n2
  · subst hn
    have hnb : ((n : Int) == (n : Int)) = true := by simp
    have hl := Lib.hid hl0
    have hl2 := Lib.hid hl20
    clear hl0 hl20
    go_enter Tryz.func32, Tryz.ntmps32
    go_wp2
    go_loopw [5] (fun v5 wr => ∃ k : Nat, k ≤ n ∧ v5 = .int .i64 (k : Int) ∧ Hid (l.take k = l2.take k) ∧ Hid (Grow w wr)) (fun v5 _ => n - (intOf v5).toNat)
    case atStart => exact ⟨0, by omega, rfl, by simp [Hid], Grow.refl w⟩
    case round =>
      obtain ⟨k, hk, rfl, hs, hg⟩ := hrel
      by_cases hlt : k < n
      · obtain ⟨b, off, rfl, hb, hcl⟩ := hR.2 (by omega)
        obtain ⟨b2, off2, rfl, hb2, hcl2⟩ := hR2.2 (by omega)
        obtain ⟨x, hx⟩ : ∃ x, l[k]? = some x := ⟨_, List.getElem?_eq_getElem (by rw [hl.out]; exact hlt)⟩
        obtain ⟨y, hy⟩ : ∃ y, l2[k]? = some y := ⟨_, List.getElem?_eq_getElem (by rw [hl2.out]; exact hlt)⟩
        have hcx1 := (hg.out.cell (p := ⟨b, off + k * 2, none⟩) (show b < w.heap.size by omega)).trans (hcl _ _ (plC_get hx).1)
        have hcx2 := (hg.out.cell (p := ⟨b, off + (k * 2 + 1), none⟩) (show b < w.heap.size by omega)).trans (hcl _ _ (plC_get hx).2)
        have hcy1 := (hg.out.cell (p := ⟨b2, off2 + k * 2, none⟩) (show b2 < w.heap.size by omega)).trans (hcl2 _ _ (plC_get hy).1)
        have hcy2 := (hg.out.cell (p := ⟨b2, off2 + (k * 2 + 1), none⟩) (show b2 < w.heap.size by omega)).trans (hcl2 _ _ (plC_get hy).2)
        have Hm1 := Lib.hid (show wr.rangeAt b (off + k * 2) [.int .i64 0, .int .i64 (x : Int)] from two_range hcx1 hcx2)
        have Hm2 := Lib.hid (show wr.rangeAt b2 (off2 + k * 2) [.int .i64 0, .int .i64 (y : Int)] from two_range hcy1 hcy2)
        have hz1 : b < wr.heap.size := by have := hg.out.size; omega
        have hz2 : b2 < wr.heap.size := by have := hg.out.size; omega
        have Hgr := hg
        have Hx := Lib.hid hx
        have Hy := Lib.hid hy
        obtain ⟨r, hr⟩ : ∃ r, r = ((x : Int) == (y : Int)) := ⟨_, rfl⟩
        have Hr := Lib.hid hr
        clear hcl hcl2 hx hy hcx1 hcx2 hcy1 hcy2 hr hg
        go_upto_region 6 with (fail)
        go_cut [25] from 17 to 25 (fun v25 wx => v25 = .bool (!r) ∧ Grow wr wx)
        case first Jx Kx hJx hMx =>
          refine wp_region_facts (by kernel_rfl) (Facts [.is (.slice (some ⟨b, off, none⟩) n c), .is (.int .i64 (k : Int)), .is (.pointer (some ⟨b, off + k * 2, none⟩)), .is (.agg #[.int .i64 0, .int .i64 (x : Int)]), .is (.slice (some ⟨b2, off2, none⟩) n c2), .is (.int .i64 (k : Int)), .is (.pointer (some ⟨b2, off2 + k * 2, none⟩)), .is (.agg #[.int .i64 0, .int .i64 (y : Int)]), .is (.bool (!r))]) (Facts.mono _) (by kernel_rfl) ?_ ?_
          · refine ⟨?_, ?_, ?_, ?_, ?_, ?_, ?_, ?_, ?_, trivial⟩
            · refine stepOf_wanted (fun _ _ _ _ _ => wanted_none rfl) ?_
              intro us w3 a' ha hg hd K hK
              have q0 : a'.tmps[0]? = some (.slice (some ⟨b, off, none⟩) n c) := by rw [ha.out]; kernel_rfl
              exact step_value (w2 := w3) (by go_simp) (hK _ _ (Grow.refl _) rfl)
            · refine stepOf_wanted (fun _ _ _ _ _ => wanted_none rfl) ?_
              intro us w3 a' ha hg hd K hK
              have q5 : a'.tmps[5]? = some (.int .i64 (k : Int)) := by rw [ha.out]; kernel_rfl
              exact step_value (w2 := w3) (by go_simp) (hK _ _ (Grow.refl _) rfl)
            · refine stepOf_wanted (fun _ _ _ _ _ => wanted_none rfl) ?_
              intro us w3 a' ha hg hd K hK
              obtain ⟨d0, d1, _⟩ := hd
              have q17 : a'.tmps[17]? = some (us 0) := by rw [ha.out]; kernel_rfl
              rw [show us 0 = .slice (some ⟨b, off, none⟩) n c from d0] at q17
              have q18 : a'.tmps[18]? = some (us 1) := by rw [ha.out]; kernel_rfl
              rw [show us 1 = .int .i64 (k : Int) from d1] at q18
              refine step_value (v := .pointer (some ⟨b, off + k * 2, none⟩)) (w2 := w3) ?_ (hK _ _ (Grow.refl _) rfl)
              go_simp
              (try (intro h; omega))
            · refine stepOf_wanted (fun _ _ _ _ _ => wanted_none rfl) ?_
              intro us w3 a' ha hg hd K hK
              obtain ⟨d2, _⟩ := hd
              have q19 : a'.tmps[19]? = some (us 2) := by rw [ha.out]; kernel_rfl
              rw [show us 2 = .pointer (some ⟨b, off + k * 2, none⟩) from d2] at q19
              exact wp_load_mid 44 (.tmp 19) rfl b (off + k * 2) (eval_tmp q19) _ _ (fun j v hj => (hg.cell (p := ⟨b, off + k * 2 + j, none⟩) hz1).trans (Hm1.out j v hj)) Tryz.underlying44 rfl (by kernel_rfl) (hK _ _ (Grow.refl _) rfl)
            · refine stepOf_wanted (fun _ _ _ _ _ => wanted_none rfl) ?_
              intro us w3 a' ha hg hd K hK
              have q1 : a'.tmps[1]? = some (.slice (some ⟨b2, off2, none⟩) n c2) := by rw [ha.out]; kernel_rfl
              exact step_value (w2 := w3) (by go_simp) (hK _ _ (Grow.refl _) rfl)
            · refine stepOf_wanted (fun _ _ _ _ _ => wanted_none rfl) ?_
              intro us w3 a' ha hg hd K hK
              have q5 : a'.tmps[5]? = some (.int .i64 (k : Int)) := by rw [ha.out]; kernel_rfl
              exact step_value (w2 := w3) (by go_simp) (hK _ _ (Grow.refl _) rfl)
            · refine stepOf_wanted (fun _ _ _ _ _ => wanted_none rfl) ?_
              intro us w3 a' ha hg hd K hK
              obtain ⟨d4, d5, _⟩ := hd
              have q21 : a'.tmps[21]? = some (us 4) := by rw [ha.out]; kernel_rfl
              rw [show us 4 = .slice (some ⟨b2, off2, none⟩) n c2 from d4] at q21
              have q22 : a'.tmps[22]? = some (us 5) := by rw [ha.out]; kernel_rfl
              rw [show us 5 = .int .i64 (k : Int) from d5] at q22
              refine step_value (v := .pointer (some ⟨b2, off2 + k * 2, none⟩)) (w2 := w3) ?_ (hK _ _ (Grow.refl _) rfl)
              go_simp
              (try (intro h; omega))
            · refine stepOf_wanted (fun _ _ _ _ _ => wanted_none rfl) ?_
              intro us w3 a' ha hg hd K hK
              obtain ⟨d6, _⟩ := hd
              have q23 : a'.tmps[23]? = some (us 6) := by rw [ha.out]; kernel_rfl
              rw [show us 6 = .pointer (some ⟨b2, off2 + k * 2, none⟩) from d6] at q23
              exact wp_load_mid 44 (.tmp 23) rfl b2 (off2 + k * 2) (eval_tmp q23) _ _ (fun j v hj => (hg.cell (p := ⟨b2, off2 + k * 2 + j, none⟩) hz2).trans (Hm2.out j v hj)) Tryz.underlying44 rfl (by kernel_rfl) (hK _ _ (Grow.refl _) rfl)
            · refine stepOf_wanted (fun _ _ _ _ _ => wanted_none rfl) ?_
              intro us w3 a' ha hg hd K hK
              obtain ⟨d3, d7, _⟩ := hd
              have q20 : a'.tmps[20]? = some (us 3) := by rw [ha.out]; kernel_rfl
              rw [show us 3 = .agg #[.int .i64 0, .int .i64 (x : Int)] from d3] at q20
              have q24 : a'.tmps[24]? = some (us 7) := by rw [ha.out]; kernel_rfl
              rw [show us 7 = .agg #[.int .i64 0, .int .i64 (y : Int)] from d7] at q24
              refine step_value (v := .bool (!r)) (w2 := w3) ?_ (hK _ _ (Grow.refl _) rfl)
              rw [Hr.out]
              go_simp
              (by_cases hxy : (x : Int) = (y : Int) <;> simp [hxy])
          · intro us w3 hg3 hf
            have h8 : us 8 = .bool (!r) := hf 8 (by decide)
            exact hMx _ _ (Met.intro (hJx _ _ ⟨us 0, us 1, us 2, us 3, us 4, us 5, us 6, us 7, us 8, ⟨h8, hg3⟩, by kernel_rfl⟩))
        case rest =>
          obtain ⟨rfl, hgx⟩ := hcut
          have HG := Lib.hid (Hgr.out.trans hgx)
          clear hgx Hm1 Hm2 Hgr
          cases r with
          | true =>
            obtain rfl : x = y := by
              have := (beq_iff_eq.1 Hr.out.symm)
              omega
            go_wp2
            go_roundw
            case rel => exact ⟨k + 1, by omega, by go_num, same_take hs.out Hx.out Hy.out, HG⟩
            case measure => simp [intOf]; omega
          | false =>
            have Hxy := Lib.hid (show x ≠ y from fun e => by
              have := Hr.out
              rw [e] at this
              simp at this)
            go_wp2
            go_ret
            exact ⟨_, rfl, ⟨fun h => (by cases h), fun h => absurd (by have h1 := Hx.out; rw [h, Hy.out] at h1; injection h1 with h1; exact h1.symm) Hxy.out⟩, HG.out⟩
      · obtain rfl : k = n := by omega
        have hs2 := hs.out
        rw [List.take_of_length_le (Nat.le_of_eq hl.out), List.take_of_length_le (Nat.le_of_eq hl2.out)] at hs2
        have Hs2 := Lib.hid hs2
        clear hs2 hR hR2
        go_wp2
        go_ret
        exact ⟨_, rfl, ⟨fun _ => Hs2.out, fun _ => rfl⟩, hg.out⟩
  · have hnb : ((n : Int) == (n2 : Int)) = false := by rw [beq_eq_false_iff_ne]; omega
    have Hf := Lib.hid (show l ≠ l2 by
      rintro rfl
      exact hn (hl0.symm.trans hl20))
    have Hn := Lib.hid hn
    clear hn hR hR2
    go_enter Tryz.func32, Tryz.ntmps32
    go_wp2
    go_ret
    exact ⟨_, rfl, ⟨fun h => (by cases h), fun h => absurd h Hf.out⟩, Grow.refl w⟩
set_option maxRecDepth 100000 in
set_option maxHeartbeats 1000000 in
theorem SamePosting_any (w : World) (B B2 : Nat) (t t2 : ByteArray) (A : Option Addr) (n c : Nat) (A2 : Option Addr) (n2 c2 : Nat) (l l2 : List Nat) (hR : ReadsAt w B 2 A n (plC l)) (hR2 : ReadsAt w B2 2 A2 n2 (plC l2)) (hc : n ≤ maxLen) (hc2 : n2 ≤ maxLen) (hBw : B ≤ w.heap.size) (hBw2 : B2 ≤ w.heap.size) :
    Calls Tryz.prog 23 #[.agg #[.string t, .slice A n c], .agg #[.string t2, .slice A2 n2 c2]] w fun e w' => ∃ b : Bool, e = .returned (.bool b) ∧ (b = true ↔ t = t2 ∧ l = l2) ∧ Grow w w' := by
  obtain ⟨wa, hwa⟩ : ∃ wa, (w.alloc (.cells #[.string t, .slice A n c] 42)).alloc (.cells #[.string t2, .slice A2 n2 c2] 42) = wa := ⟨_, rfl⟩
  have hga : Grow w wa := by rw [← hwa]; exact (Grow.alloc _ _).trans (Grow.alloc _ _)
  have h1 : Blk wa w.heap.size 42 #[.string t, .slice A n c] := by rw [← hwa]; exact (Blk.new _ _ _).alloc _
  have h2 : Blk wa (w.heap.size + 1) 42 #[.string t2, .slice A2 n2 c2] := by
    rw [← hwa]
    have h := Blk.new (w.alloc (.cells #[.string t, .slice A n c] 42)) 42 #[.string t2, .slice A2 n2 c2]
    simpa using h
  have a1 := h1.cell 0
  have a2 := h1.cell 1
  have a3 := h2.cell 0
  have a4 := h2.cell 1
  have Hs := Lib.hid (SamePlaces_any wa B B2 A A2 n c n2 c2 l l2 (hR.keep fun p hp => hga.cell (Nat.lt_of_lt_of_le hp hBw)) (hR2.keep fun p hp => hga.cell (Nat.lt_of_lt_of_le hp hBw2)) hc hc2 (Nat.le_trans hBw hga.size) (Nat.le_trans hBw2 hga.size))
  have Hga := Lib.hid hga
  clear h1 h2 hR hR2 hga
  by_cases ht : t = t2
  · subst ht
    have hne := str_eq t
    go_enter Tryz.func23, Tryz.ntmps23
    go_upto_region 1 with (fail)
    (try rw [hwa])
    clear hwa
    go_wp2_with fail
    refine Hs.out.mono ?_
    rintro e w2 ⟨bb, rfl, hbb, hg2⟩
    go_wp2_with fail
    go_ret
    exact ⟨_, rfl, ⟨fun h => ⟨by first | rfl | trivial, hbb.1 h⟩, fun h => hbb.2 h.2⟩, Hga.out.trans hg2⟩
  · have hne := str_ne ht
    have Ht := Lib.hid ht
    clear ht
    go_enter Tryz.func23, Tryz.ntmps23
    go_upto_region 1 with (fail)
    (try rw [hwa])
    clear hwa
    go_wp2_with fail
    go_ret
    exact ⟨_, rfl, ⟨fun h => (by cases h), fun h => absurd h.1 Ht.out⟩, Hga.out⟩
/-- where the places of grams lie -/
def FAt (w : World) (B : Nat) (Q : List Gr) (F : Gr → Value) (f : Gr → List Nat) : Prop := ∀ g ∈ Q, ∃ A c, F g = .slice A (f g).length c ∧ ReadsAt w B 2 A (f g).length (plC (f g)) ∧ (f g).length ≤ 2000
theorem poC_get {F : Gr → Value} : ∀ {Q : List Gr} {j : Nat} {g : Gr}, Q[j]? = some g → (poC F Q)[j * 2]? = some (.string (grS g)) ∧ (poC F Q)[j * 2 + 1]? = some (F g)
  | [], j, g, h => by simp at h
  | h :: t, 0, g, e => by
    injection e with e
    subst e
    exact ⟨rfl, rfl⟩
  | h :: t, j + 1, g, e => by
    have := poC_get (F := F) (Q := t) (j := j) (g := g) (by simpa using e)
    rw [show (j + 1) * 2 = j * 2 + 2 by omega]
    exact this
set_option maxRecDepth 100000 in
set_option maxHeartbeats 1000000 in
theorem SamePostings_true (w : World) (A A2 : Option Addr) (n c c2 : Nat) (Q : List Gr) (F F2 : Gr → Value) (f : Gr → List Nat) (hq : Q.length = n) (hR : ReadsAt w w.heap.size 2 A n (poC F Q)) (hR2 : ReadsAt w w.heap.size 2 A2 n (poC F2 Q)) (hF : FAt w w.heap.size Q F f) (hF2 : FAt w w.heap.size Q F2 f) (hc : n ≤ maxLen) :
    Calls Tryz.prog 12 #[.slice A n c, .slice A2 n c2] w fun e w' => e = .returned (.bool true) ∧ Grow w w' := by
  unfold maxLen at hc
  have hnb : ((n : Int) == (n : Int)) = true := by simp
  have Hq := Lib.hid hq
  have HF := Lib.hid hF
  have HF2 := Lib.hid hF2
  clear hq hF hF2
  go_enter Tryz.func12, Tryz.ntmps12
  go_wp2
  go_loopw [5] (fun v5 wr => ∃ k : Nat, k ≤ n ∧ v5 = .int .i64 (k : Int) ∧ Hid (Grow w wr)) (fun v5 _ => n - (intOf v5).toNat)
  case atStart => exact ⟨0, by omega, rfl, Grow.refl w⟩
  case round =>
    obtain ⟨k, hk, rfl, hg⟩ := hrel
    by_cases hlt : k < n
    · obtain ⟨b, off, rfl, hb, hcl⟩ := hR.2 (by omega)
      obtain ⟨b2, off2, rfl, hb2, hcl2⟩ := hR2.2 (by omega)
      obtain ⟨g, hx⟩ : ∃ x, Q[k]? = some x := ⟨_, List.getElem?_eq_getElem (by rw [Hq.out]; exact hlt)⟩
      have hgQ := List.mem_of_getElem? hx
      obtain ⟨A3, c3, e3, hr3, hm3⟩ := HF.out g hgQ
      obtain ⟨A4, c4, e4, hr4, -⟩ := HF2.out g hgQ
      obtain ⟨m, hm⟩ : ∃ m, m = (f g).length := ⟨_, rfl⟩
      rw [← hm] at e3 e4 hr3 hr4 hm3
      have hcx1 := (hg.out.cell (p := ⟨b, off + k * 2, none⟩) hb).trans (hcl _ _ (poC_get hx).1)
      have hcx2 := (hg.out.cell (p := ⟨b, off + (k * 2 + 1), none⟩) hb).trans (hcl _ _ (poC_get hx).2)
      have hcy1 := (hg.out.cell (p := ⟨b2, off2 + k * 2, none⟩) hb2).trans (hcl2 _ _ (poC_get hx).1)
      have hcy2 := (hg.out.cell (p := ⟨b2, off2 + (k * 2 + 1), none⟩) hb2).trans (hcl2 _ _ (poC_get hx).2)
      rw [e3] at hcx2
      rw [e4] at hcy2
      have Hm1 := Lib.hid (two_range hcx1 hcx2)
      have Hm2 := Lib.hid (two_range hcy1 hcy2)
      have hz1 : b < wr.heap.size := Nat.lt_of_lt_of_le hb hg.out.size
      have hz2 : b2 < wr.heap.size := Nat.lt_of_lt_of_le hb2 hg.out.size
      have Hr3 := Lib.hid hr3
      have Hr4 := Lib.hid hr4
      have Hgr := Lib.hid hg.out
      clear hcl hcl2 hx hcx1 hcx2 hcy1 hcy2 e3 e4 hr3 hr4 hg hm
      go_upto_region 6 with (fail)
      go_cut [26] from 17 to 26 (fun v26 wx => v26 = .bool false ∧ Grow wr wx)
      case first Jx Kx hJx hMx =>
        refine wp_region_facts (by kernel_rfl) (Facts [.is (.slice (some ⟨b, off, none⟩) n c), .is (.int .i64 (k : Int)), .is (.pointer (some ⟨b, off + k * 2, none⟩)), .is (.agg #[.string (grS g), .slice A3 m c3]), .is (.slice (some ⟨b2, off2, none⟩) n c2), .is (.int .i64 (k : Int)), .is (.pointer (some ⟨b2, off2 + k * 2, none⟩)), .is (.agg #[.string (grS g), .slice A4 m c4]), .is (.bool true), .is (.bool false)]) (Facts.mono _) (by kernel_rfl) ?_ ?_
        · refine ⟨?_, ?_, ?_, ?_, ?_, ?_, ?_, ?_, ?_, ?_, trivial⟩
          · refine stepOf_wanted (fun _ _ _ _ _ => wanted_none rfl) ?_
            intro us w3 a' ha hg hd K hK
            have q0 : a'.tmps[0]? = some (.slice (some ⟨b, off, none⟩) n c) := by rw [ha.out]; kernel_rfl
            exact step_value (w2 := w3) (by go_simp) (hK _ _ (Grow.refl _) rfl)
          · refine stepOf_wanted (fun _ _ _ _ _ => wanted_none rfl) ?_
            intro us w3 a' ha hg hd K hK
            have q5 : a'.tmps[5]? = some (.int .i64 (k : Int)) := by rw [ha.out]; kernel_rfl
            exact step_value (w2 := w3) (by go_simp) (hK _ _ (Grow.refl _) rfl)
          · refine stepOf_wanted (fun _ _ _ _ _ => wanted_none rfl) ?_
            intro us w3 a' ha hg hd K hK
            obtain ⟨d0, d1, _⟩ := hd
            have q17 : a'.tmps[17]? = some (us 0) := by rw [ha.out]; kernel_rfl
            rw [show us 0 = .slice (some ⟨b, off, none⟩) n c from d0] at q17
            have q18 : a'.tmps[18]? = some (us 1) := by rw [ha.out]; kernel_rfl
            rw [show us 1 = .int .i64 (k : Int) from d1] at q18
            refine step_value (v := .pointer (some ⟨b, off + k * 2, none⟩)) (w2 := w3) ?_ (hK _ _ (Grow.refl _) rfl)
            go_simp
            (try (intro h; omega))
          · refine stepOf_wanted (fun _ _ _ _ _ => wanted_none rfl) ?_
            intro us w3 a' ha hg hd K hK
            obtain ⟨d2, _⟩ := hd
            have q19 : a'.tmps[19]? = some (us 2) := by rw [ha.out]; kernel_rfl
            rw [show us 2 = .pointer (some ⟨b, off + k * 2, none⟩) from d2] at q19
            exact wp_load_mid 42 (.tmp 19) rfl b (off + k * 2) (eval_tmp q19) _ _ (fun j v hj => (hg.cell (p := ⟨b, off + k * 2 + j, none⟩) hz1).trans (Hm1.out j v hj)) Tryz.underlying42 rfl (by kernel_rfl) (hK _ _ (Grow.refl _) rfl)
          · refine stepOf_wanted (fun _ _ _ _ _ => wanted_none rfl) ?_
            intro us w3 a' ha hg hd K hK
            have q1 : a'.tmps[1]? = some (.slice (some ⟨b2, off2, none⟩) n c2) := by rw [ha.out]; kernel_rfl
            exact step_value (w2 := w3) (by go_simp) (hK _ _ (Grow.refl _) rfl)
          · refine stepOf_wanted (fun _ _ _ _ _ => wanted_none rfl) ?_
            intro us w3 a' ha hg hd K hK
            have q5 : a'.tmps[5]? = some (.int .i64 (k : Int)) := by rw [ha.out]; kernel_rfl
            exact step_value (w2 := w3) (by go_simp) (hK _ _ (Grow.refl _) rfl)
          · refine stepOf_wanted (fun _ _ _ _ _ => wanted_none rfl) ?_
            intro us w3 a' ha hg hd K hK
            obtain ⟨d4, d5, _⟩ := hd
            have q21 : a'.tmps[21]? = some (us 4) := by rw [ha.out]; kernel_rfl
            rw [show us 4 = .slice (some ⟨b2, off2, none⟩) n c2 from d4] at q21
            have q22 : a'.tmps[22]? = some (us 5) := by rw [ha.out]; kernel_rfl
            rw [show us 5 = .int .i64 (k : Int) from d5] at q22
            refine step_value (v := .pointer (some ⟨b2, off2 + k * 2, none⟩)) (w2 := w3) ?_ (hK _ _ (Grow.refl _) rfl)
            go_simp
            (try (intro h; omega))
          · refine stepOf_wanted (fun _ _ _ _ _ => wanted_none rfl) ?_
            intro us w3 a' ha hg hd K hK
            obtain ⟨d6, _⟩ := hd
            have q23 : a'.tmps[23]? = some (us 6) := by rw [ha.out]; kernel_rfl
            rw [show us 6 = .pointer (some ⟨b2, off2 + k * 2, none⟩) from d6] at q23
            exact wp_load_mid 42 (.tmp 23) rfl b2 (off2 + k * 2) (eval_tmp q23) _ _ (fun j v hj => (hg.cell (p := ⟨b2, off2 + k * 2 + j, none⟩) hz2).trans (Hm2.out j v hj)) Tryz.underlying42 rfl (by kernel_rfl) (hK _ _ (Grow.refl _) rfl)
          · refine stepOf_wanted (fun _ _ _ _ _ => wanted_none rfl) ?_
            intro us w3 a' ha hg hd K hK
            obtain ⟨d3, d7, _⟩ := hd
            have q20 : a'.tmps[20]? = some (us 3) := by rw [ha.out]; kernel_rfl
            rw [show us 3 = .agg #[.string (grS g), .slice A3 m c3] from d3] at q20
            have q24 : a'.tmps[24]? = some (us 7) := by rw [ha.out]; kernel_rfl
            rw [show us 7 = .agg #[.string (grS g), .slice A4 m c4] from d7] at q24
            refine step_call (f := 23) (args := #[.agg #[.string (grS g), .slice A3 m c3], .agg #[.string (grS g), .slice A4 m c4]]) (by go_simp) ?_
            refine (SamePosting_any w3 w.heap.size w.heap.size (grS g) (grS g) A3 m c3 A4 m c4 (f g) (f g) (ReadsAt.keep Hr3.out (fun p hp => (Hgr.out.trans hg).cell hp)) (ReadsAt.keep Hr4.out (fun p hp => (Hgr.out.trans hg).cell hp)) (by unfold maxLen; omega) (by unfold maxLen; omega) ((Hgr.out.trans hg).size) ((Hgr.out.trans hg).size)).mono ?_
            rintro e w4 ⟨bb, rfl, hbb, hg4⟩
            obtain rfl : bb = true := hbb.2 ⟨rfl, rfl⟩
            exact ⟨_, rfl, hK _ _ hg4 rfl⟩
          · refine stepOf_wanted (fun _ _ _ _ _ => wanted_none rfl) ?_
            intro us w3 a' ha hg hd K hK
            obtain ⟨d8, _⟩ := hd
            have q25 : a'.tmps[25]? = some (us 8) := by rw [ha.out]; kernel_rfl
            rw [show us 8 = .bool true from d8] at q25
            refine step_value (v := .bool false) (w2 := w3) ?_ (hK _ _ (Grow.refl _) rfl)
            go_simp
        · intro us w3 hg3 hf
          have h9 : us 9 = .bool false := hf 9 (by decide)
          exact hMx _ _ (Met.intro (hJx _ _ ⟨us 0, us 1, us 2, us 3, us 4, us 5, us 6, us 7, us 8, us 9, ⟨h9, hg3⟩, by kernel_rfl⟩))
      case rest =>
        obtain ⟨rfl, hgx⟩ := hcut
        have HG := Lib.hid (Hgr.out.trans hgx)
        clear hgx Hm1 Hm2 Hgr
        go_wp2
        go_roundw
        case rel => exact ⟨k + 1, by omega, by go_num, HG⟩
        case measure => simp [intOf]; omega
    · have d1 : decide ((k : Int) < (n : Int)) = false := decide_eq_false (by omega)
      go_wp2
      go_ret
      exact ⟨rfl, hg.out⟩
end Go.Proofs.YtfjnjlcmikhehaaGreat
