/-
  The walks of a search among places that rise, and of near's has. (printed by gen/nearsearch.py)
-/
import Derived.Test.YtamdejidkgnaeaaNearOrd
namespace Go.Proofs.Ytamdejidkgnaeaa
open Go.RowKit NearM
set_option linter.unusedVariables false
set_option maxRecDepth 100000 in
set_option maxHeartbeats 4000000 in
theorem nSearch_any (w : World) (B : Nat) (A : Option Addr) (n c : Nat) (l : List Pl) (x : Pl) (h : PlsAt w B A n l) (hB : B ≤ w.heap.size) (hu : Up l) (hn : n ≤ 140737488355328) :
    Calls Try.prog 43 #[.slice A n c, .agg #[.int .i64 (x.1 : Int), .int .i64 (x.2 : Int)], .func (.func 27) #[] #[]] w fun e w' => ∃ i : Int, e = .returned (.tuple #[.int .i64 i, .bool (decide (x ∈ l))]) ∧ Grow w w' := by
  obtain ⟨w1, hw1⟩ : ∃ w1, w.alloc (.cells #[.int .i64 (x.1 : Int), .int .i64 (x.2 : Int)] 33) = w1 := ⟨_, rfl⟩
  have hg1 : Grow w w1 := by rw [← hw1]; exact Grow.alloc _ _
  have hbx : Blk w1 w.heap.size 33 #[.int .i64 (x.1 : Int), .int .i64 (x.2 : Int)] := by rw [← hw1]; exact Blk.new _ _ _
  have Hbx := Lib.hid (show ∀ W, Grow w1 W → Blk W w.heap.size 33 #[.int .i64 (x.1 : Int), .int .i64 (x.2 : Int)] from fun W h => hbx.below h hbx.lt)
  have HR := Lib.hid (show ∀ W, Grow w1 W → PlsAt W B A n l from fun W hg => (h.grow hg1 hB).grow hg (Nat.le_trans hB hg1.size))
  have Hlen := Lib.hid h.1
  have Hu := Lib.hid hu
  have Hg1 := Lib.hid hg1
  have H0 := Lib.hid (Grow.refl w1)
  clear hbx h hu hg1
  go_enter Try.func43, Try.ntmps43
  go_upto_region 1 with (fail)
  (try rw [hw1])
  clear hw1
  go_wp2_with fail
  go_loopw [9, 10, 11] (fun v9 v10 v11 wr => ∃ i j : Nat, i ≤ j ∧ j ≤ n ∧ v9 = .int .i64 (i : Int) ∧ v10 = .int .i64 (j : Int) ∧ Hid (∀ k z, k < i → l[k]? = some z → Lt z x) ∧ Hid (∀ k z, j ≤ k → l[k]? = some z → ¬ Lt z x) ∧ Hid (Grow w1 wr)) (fun v9 v10 _ _ => (intOf v10).toNat - (intOf v9).toNat)
  case atStart => exact ⟨0, n, Nat.zero_le _, Nat.le_refl _, rfl, rfl, Lib.hid (fun k z hk => by omega), Lib.hid (fun k z hk hz => by have := (List.getElem?_eq_some_iff.1 hz).1; have := Hlen.out; omega), H0⟩
  case round =>
    obtain ⟨i, j, hij, hj, rfl, rfl, hlo, hhi, hgr⟩ := hrel
    by_cases hlt : i < j
    · obtain ⟨h, hh⟩ : ∃ h, h = (i + j) / 2 := ⟨_, rfl⟩
      have hh1 : i ≤ h := by omega
      have hh2 : h < j := by omega
      obtain ⟨y, hy⟩ : ∃ y, l[h]? = some y := ⟨_, List.getElem?_eq_getElem (by rw [Hlen.out]; omega)⟩
      obtain ⟨b, off, rfl, hbB, hrg⟩ := (HR.out wr hgr.out).range hy
      have e2 : IntKind.u64.wrap ((i : Int) + (j : Int)) = (i : Int) + (j : Int) := by rw [IntKind.wrap_u64]; omega
      have e3 : ((i : Int) + (j : Int)) / 2 = (h : Int) := by omega
      have hlt1 : decide ((i : Int) < (j : Int)) = true := decide_eq_true (by omega)
      have Hrg := Lib.hid (show ∀ W, Grow wr W → W.rangeAt b (off + h * 2) [.int .i64 (y.1 : Int), .int .i64 (y.2 : Int)] from fun W hg => fun k v hk => (hg.cell (p := ⟨b, off + h * 2 + k, none⟩) (by
        have := hgr.out.size
        have := Hg1.out.size
        show b < _
        omega)).trans (hrg k v hk))
      have Hxr := Lib.hid (show ∀ W, Grow wr W → W.rangeAt w.heap.size 0 [.int .i64 (x.1 : Int), .int .i64 (x.2 : Int)] from fun W hg => (Hbx.out W (hgr.out.trans hg)).range)
      have Hy := Lib.hid hy
      have Hh := Lib.hid hh
      have hhn : h < n := by omega
      clear hy hh hrg
      go_upto_region 5 with (fail)
      go_cut [31] from 15 to 34 (fun v31 wx => ∃ W : World, W = wx ∧ v31 = .bool (decide (ordP y x < 0)) ∧ Hid (Grow w1 W))
      case first Jx Kx hJx hMx =>
        refine wp_region_stages (by kernel_rfl) ?_
        refine anyOrder_start [] (Keep (fun _ => False)) ((fun _ W => Grow wr W)) (FactsOn [.is (.func (.func 27) #[] #[]), .is (.slice (some ⟨b, off, none⟩) n c), .is (.int .i64 (h : Int)), .is (.pointer (some ⟨b, off + h * 2, none⟩)), .is (.agg #[.int .i64 (y.1 : Int), .int .i64 (y.2 : Int)]), .is (.agg #[.int .i64 (x.1 : Int), .int .i64 (x.2 : Int)]), .is (.int .i64 (ordP y x)), .is (.bool (decide (ordP y x < 0)))]) (fun i => 99) keep_trans keep_grow (fun _ _ _ hg h => Grow.trans h hg) (factsOn_mono _) (by kernel_rfl) (by kernel_rfl) (Grow.refl _) ?_ ?_
        · refine ⟨?_, ?_, ?_, ?_, ?_, ?_, ?_, ?_, trivial⟩
          · refine stageOf_free rfl (fun _ _ _ _ _ _ => wanted_none rfl) ?_
            intro us vals w3 a' ha hle hW hd hv K hK
            have q2 : a'.tmps[2]? = some (.func (.func 27) #[] #[]) := slot_old ha (by kernel_rfl) (by kernel_rfl)
            refine step_value (v := .func (.func 27) #[] #[]) (w2 := w3) ?_ (hK _ _ (Grow.refl _) rfl)
            go_simp
          · refine stageOf_free rfl (fun _ _ _ _ _ _ => wanted_none rfl) ?_
            intro us vals w3 a' ha hle hW hd hv K hK
            have q0 : a'.tmps[0]? = some (.slice (some ⟨b, off, none⟩) n c) := slot_old ha (by kernel_rfl) (by kernel_rfl)
            refine step_value (v := .slice (some ⟨b, off, none⟩) n c) (w2 := w3) ?_ (hK _ _ (Grow.refl _) rfl)
            go_simp
          · refine stageOf_free rfl (fun _ _ _ _ _ _ => wanted_none rfl) ?_
            intro us vals w3 a' ha hle hW hd hv K hK
            have q11 : a'.tmps[11]? = some (.int .i64 (h : Int)) := slot_old ha (by kernel_rfl) (by kernel_rfl)
            refine step_value (v := .int .i64 (h : Int)) (w2 := w3) ?_ (hK _ _ (Grow.refl _) rfl)
            go_simp
          · refine stageOf_free rfl (fun _ _ _ _ _ _ => wanted_none rfl) ?_
            intro us vals w3 a' ha hle hW hd hv K hK
            obtain ⟨d1, d2, _⟩ := hd
            have q25 : a'.tmps[25]? = some (us 1) := slot_get ha 1 (by kernel_rfl) (by kernel_rfl)
            rw [show us 1 = .slice (some ⟨b, off, none⟩) n c from d1] at q25
            have q26 : a'.tmps[26]? = some (us 2) := slot_get ha 2 (by kernel_rfl) (by kernel_rfl)
            rw [show us 2 = .int .i64 (h : Int) from d2] at q26
            refine step_value (v := .pointer (some ⟨b, off + h * 2, none⟩)) (w2 := w3) ?_ (hK _ _ (Grow.refl _) rfl)
            go_simp
          · refine stageOf_free rfl (fun _ _ _ _ _ _ => wanted_none rfl) ?_
            intro us vals w3 a' ha hle hW hd hv K hK
            obtain ⟨d3, _⟩ := hd
            have q27 : a'.tmps[27]? = some (us 3) := slot_get ha 3 (by kernel_rfl) (by kernel_rfl)
            rw [show us 3 = .pointer (some ⟨b, off + h * 2, none⟩) from d3] at q27
            exact wp_load_mid 33 (.tmp 27) rfl b (off + h * 2) (eval_tmp q27) _ _ (Hrg.out w3 hW) Try.underlying33 rfl (by kernel_rfl) (hK _ _ (Grow.refl _) rfl)
          · refine stageOf_free rfl (fun _ _ _ _ _ _ => wanted_none rfl) ?_
            intro us vals w3 a' ha hle hW hd hv K hK
            have q4 : a'.tmps[4]? = some (.pointer (some ⟨w.heap.size, 0, none⟩)) := slot_old ha (by kernel_rfl) (by kernel_rfl)
            exact wp_load_mid 33 (.tmp 4) rfl w.heap.size 0 (eval_tmp q4) _ _ (Hxr.out w3 hW) Try.underlying33 rfl (by kernel_rfl) (hK _ _ (Grow.refl _) rfl)
          · refine stageOf_free rfl (fun _ _ _ _ _ _ => wanted_none rfl) ?_
            intro us vals w3 a' ha hle hW hd hv K hK
            obtain ⟨d0, d4, d5, _⟩ := hd
            have q24 : a'.tmps[24]? = some (us 0) := slot_get ha 0 (by kernel_rfl) (by kernel_rfl)
            rw [show us 0 = .func (.func 27) #[] #[] from d0] at q24
            have q28 : a'.tmps[28]? = some (us 4) := slot_get ha 4 (by kernel_rfl) (by kernel_rfl)
            rw [show us 4 = .agg #[.int .i64 (y.1 : Int), .int .i64 (y.2 : Int)] from d4] at q28
            have q29 : a'.tmps[29]? = some (us 5) := slot_get ha 5 (by kernel_rfl) (by kernel_rfl)
            rw [show us 5 = .agg #[.int .i64 (x.1 : Int), .int .i64 (x.2 : Int)] from d5] at q29
            refine step_call (f := 27) (args := #[.agg #[.int .i64 (y.1 : Int), .int .i64 (y.2 : Int)], .agg #[.int .i64 (x.1 : Int), .int .i64 (x.2 : Int)]]) (by go_simp) ?_
            refine (norder_any w3 y x).mono ?_
            rintro e w4 ⟨rfl, hg4⟩
            exact ⟨_, rfl, hK _ _ hg4 rfl⟩
          · refine stageOf_free rfl (fun _ _ _ _ _ _ => wanted_none rfl) ?_
            intro us vals w3 a' ha hle hW hd hv K hK
            obtain ⟨d6, _⟩ := hd
            have q30 : a'.tmps[30]? = some (us 6) := slot_get ha 6 (by kernel_rfl) (by kernel_rfl)
            rw [show us 6 = .int .i64 (ordP y x) from d6] at q30
            refine step_value (v := .bool (decide (ordP y x < 0))) (w2 := w3) ?_ (hK _ _ (Grow.refl _) rfl)
            go_simp
        · intro us vals w5 hle hvl hW ht hf
          refine hMx _ _ (Met.intro (hJx _ _ ?_))
          generalize hF : fills _ _ _ _ = F
          have s31 : F.tmps.getD 31 undef = us 7 := by rw [← hF]; kernel_rfl
          exact ⟨F.tmps.getD 15 undef, F.tmps.getD 16 undef, F.tmps.getD 17 undef, F.tmps.getD 18 undef, F.tmps.getD 19 undef, F.tmps.getD 20 undef, F.tmps.getD 21 undef, F.tmps.getD 22 undef, F.tmps.getD 23 undef, F.tmps.getD 24 undef, F.tmps.getD 25 undef, F.tmps.getD 26 undef, F.tmps.getD 27 undef, F.tmps.getD 28 undef, F.tmps.getD 29 undef, F.tmps.getD 30 undef, F.tmps.getD 31 undef, F.tmps.getD 32 undef, F.tmps.getD 33 undef, F.tmps.getD 34 undef, ⟨_, rfl, s31.trans (hf 7 (by decide) rfl), Lib.hid (hgr.out.trans hW)⟩, by rw [← hF]; kernel_rfl⟩
      case rest =>
      obtain ⟨w5, rfl, rfl, hg5⟩ := hcut
      by_cases hyx : ordP y x < 0
      · have d2 : decide (ordP y x < 0) = true := decide_eq_true hyx
        go_wp2_with fail
        go_roundw
        case rel => exact ⟨h + 1, j, by omega, hj, by go_num, rfl, Lib.hid (fun k z hk hz => by
          by_cases e : k = h
          · subst e
            have h1 := Hy.out
            rw [h1] at hz
            injection hz with hz
            rw [← hz]
            exact ordP_lt.1 hyx
          · obtain ⟨hlk, hz2⟩ := List.getElem?_eq_some_iff.1 hz
            obtain ⟨hlh, hy2⟩ := List.getElem?_eq_some_iff.1 Hy.out
            have h1 := List.pairwise_iff_getElem.1 Hu.out k h hlk hlh (by omega)
            rw [hz2, hy2] at h1
            exact h1.trans (ordP_lt.1 hyx)), hhi, hg5⟩
        case measure => simp [intOf]; omega
      · have d2 : decide (ordP y x < 0) = false := decide_eq_false hyx
        go_wp2_with fail
        go_roundw
        case rel => exact ⟨i, h, hh1, by omega, rfl, rfl, hlo, Lib.hid (fun k z hk hz => by
          by_cases e : k = h
          · subst e
            have h1 := Hy.out
            rw [h1] at hz
            injection hz with hz
            rw [← hz]
            exact fun h => hyx (ordP_lt.2 h)
          · obtain ⟨hlk, hz2⟩ := List.getElem?_eq_some_iff.1 hz
            obtain ⟨hlh, hy2⟩ := List.getElem?_eq_some_iff.1 Hy.out
            have h1 := List.pairwise_iff_getElem.1 Hu.out h k hlh hlk (by omega)
            rw [hz2, hy2] at h1
            exact fun h => hyx (ordP_lt.2 (h1.trans h))), hg5⟩
        case measure => simp [intOf]; omega
    · have hlt1 : decide ((i : Int) < (j : Int)) = false := decide_eq_false (by omega)
      obtain rfl : i = j := by omega
      have Hin := Lib.hid (show ∀ y, l[i]? = some y → (x ∈ l ↔ y = x) from fun y hy => by
        constructor
        · intro hx
          obtain ⟨k, hk⟩ := List.getElem?_of_mem hx
          have hki : k = i := by
            rcases Nat.lt_trichotomy k i with h | h | h
            · exact absurd (hlo.out k x h hk) (Lt.irrefl x)
            · exact h
            · obtain ⟨hlk, hz2⟩ := List.getElem?_eq_some_iff.1 hk
              obtain ⟨hli, hy2⟩ := List.getElem?_eq_some_iff.1 hy
              have h1 := List.pairwise_iff_getElem.1 Hu.out i k hli hlk h
              rw [hz2, hy2] at h1
              exact absurd h1 (hhi.out i y (Nat.le_refl _) hy)
          rw [hki, hy] at hk
          injection hk
        · rintro rfl
          exact List.mem_of_getElem? hy)
      have Hno := Lib.hid (show n ≤ i → x ∉ l from fun hni hx => by
        obtain ⟨k, hk⟩ := List.getElem?_of_mem hx
        have := (List.getElem?_eq_some_iff.1 hk).1
        have := Hlen.out
        exact absurd (hlo.out k x (by omega) hk) (Lt.irrefl x))
      by_cases hin : i < n
      · obtain ⟨y, hy⟩ : ∃ y, l[i]? = some y := ⟨_, List.getElem?_eq_getElem (by rw [Hlen.out]; omega)⟩
        obtain ⟨b, off, rfl, hbB, hrg⟩ := (HR.out wr hgr.out).range hy
        have d1 : decide ((i : Int) < (n : Int)) = true := decide_eq_true (by omega)
        have Hrg := Lib.hid (show ∀ W, Grow wr W → W.rangeAt b (off + i * 2) [.int .i64 (y.1 : Int), .int .i64 (y.2 : Int)] from fun W hg => fun k v hk => (hg.cell (p := ⟨b, off + i * 2 + k, none⟩) (by
          have := hgr.out.size
          have := Hg1.out.size
          show b < _
          omega)).trans (hrg k v hk))
        have Hxr := Lib.hid (show ∀ W, Grow wr W → W.rangeAt w.heap.size 0 [.int .i64 (x.1 : Int), .int .i64 (x.2 : Int)] from fun W hg => (Hbx.out W (hgr.out.trans hg)).range)
        have Hq := Lib.hid (show decide (x ∈ l) = (ordP y x == 0) from by
          rw [Bool.eq_iff_iff, decide_eq_true_eq, beq_iff_eq, ordP_eq]
          exact Hin.out y hy)
        clear hy hrg Hno Hin hlo hhi
        go_upto_region 8 with (fail)
        go_cut [6, 7] from 12 to 48 (fun v6 v7 wx => ∃ W : World, W = wx ∧ v6 = .int .i64 (i : Int) ∧ v7 = .bool (ordP y x == 0) ∧ Grow wr W)
        case first Jx Kx hJx hMx =>
          refine wp_region_stages (by kernel_rfl) ?_
          refine anyOrder_start [] (Keep (fun _ => False)) ((fun _ W => Grow wr W)) (FactsOn [.is (.int .i64 (i : Int)), .is (.int .i64 (i : Int)), .is (.int .i64 (n : Int)), .is (.bool true), .is (.bool true), .is (.func (.func 27) #[] #[]), .is (.slice (some ⟨b, off, none⟩) n c), .is (.int .i64 (i : Int)), .is (.pointer (some ⟨b, off + i * 2, none⟩)), .is (.agg #[.int .i64 (y.1 : Int), .int .i64 (y.2 : Int)]), .is (.agg #[.int .i64 (x.1 : Int), .int .i64 (x.2 : Int)]), .is (.int .i64 (ordP y x)), .is (.bool (ordP y x == 0)), .is (.bool (ordP y x == 0)), .is (.int .i64 (i : Int)), .is (.bool (ordP y x == 0))]) (fun i => 99) keep_trans keep_grow (fun _ _ _ hg h => Grow.trans h hg) (factsOn_mono _) (by kernel_rfl) (by kernel_rfl) (Grow.refl _) ?_ ?_
          · refine ⟨?_, ?_, ?_, ?_, ?_, ?_, ?_, ?_, ?_, ?_, ?_, ?_, ?_, ?_, ?_, ?_, trivial⟩
            · refine stageOf_free rfl (fun _ _ _ _ _ _ => wanted_none rfl) ?_
              intro us vals w3 a' ha hle hW hd hv K hK
              have q9 : a'.tmps[9]? = some (.int .i64 (i : Int)) := slot_old ha (by kernel_rfl) (by kernel_rfl)
              refine step_value (v := .int .i64 (i : Int)) (w2 := w3) ?_ (hK _ _ (Grow.refl _) rfl)
              go_simp
            · refine stageOf_free rfl (fun _ _ _ _ _ _ => wanted_none rfl) ?_
              intro us vals w3 a' ha hle hW hd hv K hK
              have q9 : a'.tmps[9]? = some (.int .i64 (i : Int)) := slot_old ha (by kernel_rfl) (by kernel_rfl)
              refine step_value (v := .int .i64 (i : Int)) (w2 := w3) ?_ (hK _ _ (Grow.refl _) rfl)
              go_simp
            · refine stageOf_free rfl (fun _ _ _ _ _ _ => wanted_none rfl) ?_
              intro us vals w3 a' ha hle hW hd hv K hK
              have q8 : a'.tmps[8]? = some (.int .i64 (n : Int)) := slot_old ha (by kernel_rfl) (by kernel_rfl)
              refine step_value (v := .int .i64 (n : Int)) (w2 := w3) ?_ (hK _ _ (Grow.refl _) rfl)
              go_simp
            · refine stageOf_free rfl (fun _ _ _ _ _ _ => wanted_none rfl) ?_
              intro us vals w3 a' ha hle hW hd hv K hK
              obtain ⟨d1, d2, _⟩ := hd
              have q36 : a'.tmps[36]? = some (us 1) := slot_get ha 1 (by kernel_rfl) (by kernel_rfl)
              rw [show us 1 = .int .i64 (i : Int) from d1] at q36
              have q37 : a'.tmps[37]? = some (us 2) := slot_get ha 2 (by kernel_rfl) (by kernel_rfl)
              rw [show us 2 = .int .i64 (n : Int) from d2] at q37
              refine step_value (v := .bool true) (w2 := w3) ?_ (hK _ _ (Grow.refl _) rfl)
              go_simp
            · refine stageOf_free rfl (fun _ _ _ _ _ _ => wanted_none rfl) ?_
              intro us vals w3 a' ha hle hW hd hv K hK
              obtain ⟨d3, _⟩ := hd
              have q38 : a'.tmps[38]? = some (us 3) := slot_get ha 3 (by kernel_rfl) (by kernel_rfl)
              rw [show us 3 = .bool true from d3] at q38
              refine step_value (v := .bool true) (w2 := w3) ?_ (hK _ _ (Grow.refl _) rfl)
              go_simp
            · refine stageOf_free rfl (fun us vals w3 a' ha hd => ?_) ?_
              · obtain ⟨d4, _⟩ := hd
                have q : a'.tmps[39]? = some (us 4) := slot_get ha 4 (by kernel_rfl) (by kernel_rfl)
                rw [show us 4 = .bool true from d4] at q
                exact wanted_some rfl rfl q
              intro us vals w3 a' ha hle hW hd hv K hK
              have q2 : a'.tmps[2]? = some (.func (.func 27) #[] #[]) := slot_old ha (by kernel_rfl) (by kernel_rfl)
              refine step_value (v := .func (.func 27) #[] #[]) (w2 := w3) ?_ (hK _ _ (Grow.refl _) rfl)
              go_simp
            · refine stageOf_free rfl (fun us vals w3 a' ha hd => ?_) ?_
              · obtain ⟨d4, _⟩ := hd
                have q : a'.tmps[39]? = some (us 4) := slot_get ha 4 (by kernel_rfl) (by kernel_rfl)
                rw [show us 4 = .bool true from d4] at q
                exact wanted_some rfl rfl q
              intro us vals w3 a' ha hle hW hd hv K hK
              have q0 : a'.tmps[0]? = some (.slice (some ⟨b, off, none⟩) n c) := slot_old ha (by kernel_rfl) (by kernel_rfl)
              refine step_value (v := .slice (some ⟨b, off, none⟩) n c) (w2 := w3) ?_ (hK _ _ (Grow.refl _) rfl)
              go_simp
            · refine stageOf_free rfl (fun us vals w3 a' ha hd => ?_) ?_
              · obtain ⟨d4, _⟩ := hd
                have q : a'.tmps[39]? = some (us 4) := slot_get ha 4 (by kernel_rfl) (by kernel_rfl)
                rw [show us 4 = .bool true from d4] at q
                exact wanted_some rfl rfl q
              intro us vals w3 a' ha hle hW hd hv K hK
              have q9 : a'.tmps[9]? = some (.int .i64 (i : Int)) := slot_old ha (by kernel_rfl) (by kernel_rfl)
              refine step_value (v := .int .i64 (i : Int)) (w2 := w3) ?_ (hK _ _ (Grow.refl _) rfl)
              go_simp
            · refine stageOf_free rfl (fun us vals w3 a' ha hd => ?_) ?_
              · obtain ⟨_, _, d4, _⟩ := hd
                have q : a'.tmps[39]? = some (us 4) := slot_get ha 4 (by kernel_rfl) (by kernel_rfl)
                rw [show us 4 = .bool true from d4] at q
                exact wanted_some rfl rfl q
              intro us vals w3 a' ha hle hW hd hv K hK
              obtain ⟨d6, d7, _, _⟩ := hd
              have q41 : a'.tmps[41]? = some (us 6) := slot_get ha 6 (by kernel_rfl) (by kernel_rfl)
              rw [show us 6 = .slice (some ⟨b, off, none⟩) n c from d6] at q41
              have q42 : a'.tmps[42]? = some (us 7) := slot_get ha 7 (by kernel_rfl) (by kernel_rfl)
              rw [show us 7 = .int .i64 (i : Int) from d7] at q42
              refine step_value (v := .pointer (some ⟨b, off + i * 2, none⟩)) (w2 := w3) ?_ (hK _ _ (Grow.refl _) rfl)
              go_simp
            · refine stageOf_free rfl (fun us vals w3 a' ha hd => ?_) ?_
              · obtain ⟨_, d4, _⟩ := hd
                have q : a'.tmps[39]? = some (us 4) := slot_get ha 4 (by kernel_rfl) (by kernel_rfl)
                rw [show us 4 = .bool true from d4] at q
                exact wanted_some rfl rfl q
              intro us vals w3 a' ha hle hW hd hv K hK
              obtain ⟨d8, _, _⟩ := hd
              have q43 : a'.tmps[43]? = some (us 8) := slot_get ha 8 (by kernel_rfl) (by kernel_rfl)
              rw [show us 8 = .pointer (some ⟨b, off + i * 2, none⟩) from d8] at q43
              exact wp_load_mid 33 (.tmp 43) rfl b (off + i * 2) (eval_tmp q43) _ _ (Hrg.out w3 hW) Try.underlying33 rfl (by kernel_rfl) (hK _ _ (Grow.refl _) rfl)
            · refine stageOf_free rfl (fun us vals w3 a' ha hd => ?_) ?_
              · obtain ⟨d4, _⟩ := hd
                have q : a'.tmps[39]? = some (us 4) := slot_get ha 4 (by kernel_rfl) (by kernel_rfl)
                rw [show us 4 = .bool true from d4] at q
                exact wanted_some rfl rfl q
              intro us vals w3 a' ha hle hW hd hv K hK
              have q4 : a'.tmps[4]? = some (.pointer (some ⟨w.heap.size, 0, none⟩)) := slot_old ha (by kernel_rfl) (by kernel_rfl)
              exact wp_load_mid 33 (.tmp 4) rfl w.heap.size 0 (eval_tmp q4) _ _ (Hxr.out w3 hW) Try.underlying33 rfl (by kernel_rfl) (hK _ _ (Grow.refl _) rfl)
            · refine stageOf_free rfl (fun us vals w3 a' ha hd => ?_) ?_
              · obtain ⟨_, _, _, d4, _, _⟩ := hd
                have q : a'.tmps[39]? = some (us 4) := slot_get ha 4 (by kernel_rfl) (by kernel_rfl)
                rw [show us 4 = .bool true from d4] at q
                exact wanted_some rfl rfl q
              intro us vals w3 a' ha hle hW hd hv K hK
              obtain ⟨d5, d9, d10, _, _, _⟩ := hd
              have q40 : a'.tmps[40]? = some (us 5) := slot_get ha 5 (by kernel_rfl) (by kernel_rfl)
              rw [show us 5 = .func (.func 27) #[] #[] from d5] at q40
              have q44 : a'.tmps[44]? = some (us 9) := slot_get ha 9 (by kernel_rfl) (by kernel_rfl)
              rw [show us 9 = .agg #[.int .i64 (y.1 : Int), .int .i64 (y.2 : Int)] from d9] at q44
              have q45 : a'.tmps[45]? = some (us 10) := slot_get ha 10 (by kernel_rfl) (by kernel_rfl)
              rw [show us 10 = .agg #[.int .i64 (x.1 : Int), .int .i64 (x.2 : Int)] from d10] at q45
              refine step_call (f := 27) (args := #[.agg #[.int .i64 (y.1 : Int), .int .i64 (y.2 : Int)], .agg #[.int .i64 (x.1 : Int), .int .i64 (x.2 : Int)]]) (by go_simp) ?_
              refine (norder_any w3 y x).mono ?_
              rintro e w4 ⟨rfl, hg4⟩
              exact ⟨_, rfl, hK _ _ hg4 rfl⟩
            · refine stageOf_free rfl (fun us vals w3 a' ha hd => ?_) ?_
              · obtain ⟨_, d4, _⟩ := hd
                have q : a'.tmps[39]? = some (us 4) := slot_get ha 4 (by kernel_rfl) (by kernel_rfl)
                rw [show us 4 = .bool true from d4] at q
                exact wanted_some rfl rfl q
              intro us vals w3 a' ha hle hW hd hv K hK
              obtain ⟨d11, _, _⟩ := hd
              have q46 : a'.tmps[46]? = some (us 11) := slot_get ha 11 (by kernel_rfl) (by kernel_rfl)
              rw [show us 11 = .int .i64 (ordP y x) from d11] at q46
              refine step_value (v := .bool (ordP y x == 0)) (w2 := w3) ?_ (hK _ _ (Grow.refl _) rfl)
              go_simp
            · refine stageOf_free rfl (fun _ _ _ _ _ _ => wanted_none rfl) ?_
              intro us vals w3 a' ha hle hW hd hv K hK
              obtain ⟨d4, d12, _⟩ := hd
              have q39 : a'.tmps[39]? = some (us 4) := slot_get ha 4 (by kernel_rfl) (by kernel_rfl)
              rw [show us 4 = .bool true from d4] at q39
              have q47 : a'.tmps[47]? = some (us 12) := slot_get ha 12 (by kernel_rfl) (by kernel_rfl)
              rw [show us 12 = .bool (ordP y x == 0) from d12] at q47
              refine step_value (v := .bool (ordP y x == 0)) (w2 := w3) ?_ (hK _ _ (Grow.refl _) rfl)
              go_simp
            · refine stageOf_free rfl (fun _ _ _ _ _ _ => wanted_none rfl) ?_
              intro us vals w3 a' ha hle hW hd hv K hK
              obtain ⟨d0, _, _, _⟩ := hd
              have q35 : a'.tmps[35]? = some (us 0) := slot_get ha 0 (by kernel_rfl) (by kernel_rfl)
              rw [show us 0 = .int .i64 (i : Int) from d0] at q35
              refine step_value (v := .int .i64 (i : Int)) (w2 := w3) ?_ (hK _ _ (Grow.refl _) rfl)
              go_simp
            · refine stageOf_free rfl (fun _ _ _ _ _ _ => wanted_none rfl) ?_
              intro us vals w3 a' ha hle hW hd hv K hK
              obtain ⟨d13, _, _, _, _, _, _, _, _, _, _, _, _, _, _, _, _, _⟩ := hd
              have q48 : a'.tmps[48]? = some (us 13) := slot_get ha 13 (by kernel_rfl) (by kernel_rfl)
              rw [show us 13 = .bool (ordP y x == 0) from d13] at q48
              refine step_value (v := .bool (ordP y x == 0)) (w2 := w3) ?_ (hK _ _ (Grow.refl _) rfl)
              go_simp
          · intro us vals w5 hle hvl hW ht hf
            refine hMx _ _ (Met.intro (hJx _ _ ?_))
            generalize hF : fills _ _ _ _ = F
            have s6 : F.tmps.getD 6 undef = us 14 := by rw [← hF]; kernel_rfl
            have s7 : F.tmps.getD 7 undef = us 15 := by rw [← hF]; kernel_rfl
            exact ⟨F.tmps.getD 6 undef, F.tmps.getD 7 undef, F.tmps.getD 12 undef, F.tmps.getD 13 undef, F.tmps.getD 14 undef, F.tmps.getD 15 undef, F.tmps.getD 16 undef, F.tmps.getD 17 undef, F.tmps.getD 18 undef, F.tmps.getD 19 undef, F.tmps.getD 20 undef, F.tmps.getD 21 undef, F.tmps.getD 22 undef, F.tmps.getD 23 undef, F.tmps.getD 24 undef, F.tmps.getD 25 undef, F.tmps.getD 26 undef, F.tmps.getD 27 undef, F.tmps.getD 28 undef, F.tmps.getD 29 undef, F.tmps.getD 30 undef, F.tmps.getD 31 undef, F.tmps.getD 32 undef, F.tmps.getD 33 undef, F.tmps.getD 34 undef, F.tmps.getD 35 undef, F.tmps.getD 36 undef, F.tmps.getD 37 undef, F.tmps.getD 38 undef, F.tmps.getD 39 undef, F.tmps.getD 40 undef, F.tmps.getD 41 undef, F.tmps.getD 42 undef, F.tmps.getD 43 undef, F.tmps.getD 44 undef, F.tmps.getD 45 undef, F.tmps.getD 46 undef, F.tmps.getD 47 undef, F.tmps.getD 48 undef, ⟨_, rfl, s6.trans (hf 14 (by decide) rfl), s7.trans (hf 15 (by decide) rfl), hW⟩, by rw [← hF]; kernel_rfl⟩
        case rest =>
        obtain ⟨w5, rfl, rfl, rfl, hg5⟩ := hcut
        go_wp2_with fail
        go_ret2
        exact ⟨(i : Int), by rw [Hq.out]; rfl, (Hg1.out.trans hgr.out).trans hg5⟩
      · have d1 : decide ((i : Int) < (n : Int)) = false := decide_eq_false (by omega)
        have Hq := Lib.hid (show decide (x ∈ l) = false from decide_eq_false (Hno.out (by omega)))
        clear Hno Hin hlo hhi
        go_upto_region 8 with (fail)
        go_cut [6, 7] from 12 to 48 (fun v6 v7 wx => ∃ W : World, W = wx ∧ v6 = .int .i64 (i : Int) ∧ v7 = .bool false ∧ Grow wr W)
        case first Jx Kx hJx hMx =>
          refine wp_region_stages (by kernel_rfl) ?_
          refine anyOrder_start [] (Keep (fun _ => False)) ((fun _ W => Grow wr W)) (FactsOn [.is (.int .i64 (i : Int)), .is (.int .i64 (i : Int)), .is (.int .i64 (n : Int)), .is (.bool false), .is (.bool false), .is (undef), .is (undef), .is (undef), .is (undef), .is (undef), .is (undef), .is (undef), .is (undef), .is (.bool false), .is (.int .i64 (i : Int)), .is (.bool false)]) (fun i => 99) keep_trans keep_grow (fun _ _ _ hg h => Grow.trans h hg) (factsOn_mono _) (by kernel_rfl) (by kernel_rfl) (Grow.refl _) ?_ ?_
          · refine ⟨?_, ?_, ?_, ?_, ?_, ?_, ?_, ?_, ?_, ?_, ?_, ?_, ?_, ?_, ?_, ?_, trivial⟩
            · refine stageOf_free rfl (fun _ _ _ _ _ _ => wanted_none rfl) ?_
              intro us vals w3 a' ha hle hW hd hv K hK
              have q9 : a'.tmps[9]? = some (.int .i64 (i : Int)) := slot_old ha (by kernel_rfl) (by kernel_rfl)
              refine step_value (v := .int .i64 (i : Int)) (w2 := w3) ?_ (hK _ _ (Grow.refl _) rfl)
              go_simp
            · refine stageOf_free rfl (fun _ _ _ _ _ _ => wanted_none rfl) ?_
              intro us vals w3 a' ha hle hW hd hv K hK
              have q9 : a'.tmps[9]? = some (.int .i64 (i : Int)) := slot_old ha (by kernel_rfl) (by kernel_rfl)
              refine step_value (v := .int .i64 (i : Int)) (w2 := w3) ?_ (hK _ _ (Grow.refl _) rfl)
              go_simp
            · refine stageOf_free rfl (fun _ _ _ _ _ _ => wanted_none rfl) ?_
              intro us vals w3 a' ha hle hW hd hv K hK
              have q8 : a'.tmps[8]? = some (.int .i64 (n : Int)) := slot_old ha (by kernel_rfl) (by kernel_rfl)
              refine step_value (v := .int .i64 (n : Int)) (w2 := w3) ?_ (hK _ _ (Grow.refl _) rfl)
              go_simp
            · refine stageOf_free rfl (fun _ _ _ _ _ _ => wanted_none rfl) ?_
              intro us vals w3 a' ha hle hW hd hv K hK
              obtain ⟨d1, d2, _⟩ := hd
              have q36 : a'.tmps[36]? = some (us 1) := slot_get ha 1 (by kernel_rfl) (by kernel_rfl)
              rw [show us 1 = .int .i64 (i : Int) from d1] at q36
              have q37 : a'.tmps[37]? = some (us 2) := slot_get ha 2 (by kernel_rfl) (by kernel_rfl)
              rw [show us 2 = .int .i64 (n : Int) from d2] at q37
              refine step_value (v := .bool false) (w2 := w3) ?_ (hK _ _ (Grow.refl _) rfl)
              go_simp
            · refine stageOf_free rfl (fun _ _ _ _ _ _ => wanted_none rfl) ?_
              intro us vals w3 a' ha hle hW hd hv K hK
              obtain ⟨d3, _⟩ := hd
              have q38 : a'.tmps[38]? = some (us 3) := slot_get ha 3 (by kernel_rfl) (by kernel_rfl)
              rw [show us 3 = .bool false from d3] at q38
              refine step_value (v := .bool false) (w2 := w3) ?_ (hK _ _ (Grow.refl _) rfl)
              go_simp
            · refine stageOf_skip rfl (fun us vals w3 a' ha hd => ?_) (fun _ => rfl)
              obtain ⟨d4, _⟩ := hd
              have q : a'.tmps[39]? = some (us 4) := slot_get ha 4 (by kernel_rfl) (by kernel_rfl)
              rw [show us 4 = .bool false from d4] at q
              exact wanted_other rfl rfl q
            · refine stageOf_skip rfl (fun us vals w3 a' ha hd => ?_) (fun _ => rfl)
              obtain ⟨d4, _⟩ := hd
              have q : a'.tmps[39]? = some (us 4) := slot_get ha 4 (by kernel_rfl) (by kernel_rfl)
              rw [show us 4 = .bool false from d4] at q
              exact wanted_other rfl rfl q
            · refine stageOf_skip rfl (fun us vals w3 a' ha hd => ?_) (fun _ => rfl)
              obtain ⟨d4, _⟩ := hd
              have q : a'.tmps[39]? = some (us 4) := slot_get ha 4 (by kernel_rfl) (by kernel_rfl)
              rw [show us 4 = .bool false from d4] at q
              exact wanted_other rfl rfl q
            · refine stageOf_skip rfl (fun us vals w3 a' ha hd => ?_) (fun _ => rfl)
              obtain ⟨_, _, d4, _⟩ := hd
              have q : a'.tmps[39]? = some (us 4) := slot_get ha 4 (by kernel_rfl) (by kernel_rfl)
              rw [show us 4 = .bool false from d4] at q
              exact wanted_other rfl rfl q
            · refine stageOf_skip rfl (fun us vals w3 a' ha hd => ?_) (fun _ => rfl)
              obtain ⟨_, d4, _⟩ := hd
              have q : a'.tmps[39]? = some (us 4) := slot_get ha 4 (by kernel_rfl) (by kernel_rfl)
              rw [show us 4 = .bool false from d4] at q
              exact wanted_other rfl rfl q
            · refine stageOf_skip rfl (fun us vals w3 a' ha hd => ?_) (fun _ => rfl)
              obtain ⟨d4, _⟩ := hd
              have q : a'.tmps[39]? = some (us 4) := slot_get ha 4 (by kernel_rfl) (by kernel_rfl)
              rw [show us 4 = .bool false from d4] at q
              exact wanted_other rfl rfl q
            · refine stageOf_skip rfl (fun us vals w3 a' ha hd => ?_) (fun _ => rfl)
              obtain ⟨_, _, _, d4, _, _⟩ := hd
              have q : a'.tmps[39]? = some (us 4) := slot_get ha 4 (by kernel_rfl) (by kernel_rfl)
              rw [show us 4 = .bool false from d4] at q
              exact wanted_other rfl rfl q
            · refine stageOf_skip rfl (fun us vals w3 a' ha hd => ?_) (fun _ => rfl)
              obtain ⟨_, d4, _⟩ := hd
              have q : a'.tmps[39]? = some (us 4) := slot_get ha 4 (by kernel_rfl) (by kernel_rfl)
              rw [show us 4 = .bool false from d4] at q
              exact wanted_other rfl rfl q
            · refine stageOf_free rfl (fun _ _ _ _ _ _ => wanted_none rfl) ?_
              intro us vals w3 a' ha hle hW hd hv K hK
              obtain ⟨d4, d12, _⟩ := hd
              have q39 : a'.tmps[39]? = some (us 4) := slot_get ha 4 (by kernel_rfl) (by kernel_rfl)
              rw [show us 4 = .bool false from d4] at q39
              have q47 : a'.tmps[47]? = some (us 12) := slot_get ha 12 (by kernel_rfl) (by kernel_rfl)
              rw [show us 12 = undef from d12] at q47
              refine step_value (v := .bool false) (w2 := w3) ?_ (hK _ _ (Grow.refl _) rfl)
              go_simp
            · refine stageOf_free rfl (fun _ _ _ _ _ _ => wanted_none rfl) ?_
              intro us vals w3 a' ha hle hW hd hv K hK
              obtain ⟨d0, _, _, _⟩ := hd
              have q35 : a'.tmps[35]? = some (us 0) := slot_get ha 0 (by kernel_rfl) (by kernel_rfl)
              rw [show us 0 = .int .i64 (i : Int) from d0] at q35
              refine step_value (v := .int .i64 (i : Int)) (w2 := w3) ?_ (hK _ _ (Grow.refl _) rfl)
              go_simp
            · refine stageOf_free rfl (fun _ _ _ _ _ _ => wanted_none rfl) ?_
              intro us vals w3 a' ha hle hW hd hv K hK
              obtain ⟨d13, _, _, _, _, _, _, _, _, _, _, _, _, _, _, _, _, _⟩ := hd
              have q48 : a'.tmps[48]? = some (us 13) := slot_get ha 13 (by kernel_rfl) (by kernel_rfl)
              rw [show us 13 = .bool false from d13] at q48
              refine step_value (v := .bool false) (w2 := w3) ?_ (hK _ _ (Grow.refl _) rfl)
              go_simp
          · intro us vals w5 hle hvl hW ht hf
            refine hMx _ _ (Met.intro (hJx _ _ ?_))
            generalize hF : fills _ _ _ _ = F
            have s6 : F.tmps.getD 6 undef = us 14 := by rw [← hF]; kernel_rfl
            have s7 : F.tmps.getD 7 undef = us 15 := by rw [← hF]; kernel_rfl
            exact ⟨F.tmps.getD 6 undef, F.tmps.getD 7 undef, F.tmps.getD 12 undef, F.tmps.getD 13 undef, F.tmps.getD 14 undef, F.tmps.getD 15 undef, F.tmps.getD 16 undef, F.tmps.getD 17 undef, F.tmps.getD 18 undef, F.tmps.getD 19 undef, F.tmps.getD 20 undef, F.tmps.getD 21 undef, F.tmps.getD 22 undef, F.tmps.getD 23 undef, F.tmps.getD 24 undef, F.tmps.getD 25 undef, F.tmps.getD 26 undef, F.tmps.getD 27 undef, F.tmps.getD 28 undef, F.tmps.getD 29 undef, F.tmps.getD 30 undef, F.tmps.getD 31 undef, F.tmps.getD 32 undef, F.tmps.getD 33 undef, F.tmps.getD 34 undef, F.tmps.getD 35 undef, F.tmps.getD 36 undef, F.tmps.getD 37 undef, F.tmps.getD 38 undef, F.tmps.getD 39 undef, F.tmps.getD 40 undef, F.tmps.getD 41 undef, F.tmps.getD 42 undef, F.tmps.getD 43 undef, F.tmps.getD 44 undef, F.tmps.getD 45 undef, F.tmps.getD 46 undef, F.tmps.getD 47 undef, F.tmps.getD 48 undef, ⟨_, rfl, s6.trans (hf 14 (by decide) rfl), s7.trans (hf 15 (by decide) rfl), hW⟩, by rw [← hF]; kernel_rfl⟩
        case rest =>
        obtain ⟨w5, rfl, rfl, rfl, hg5⟩ := hcut
        go_wp2_with fail
        go_ret2
        exact ⟨(i : Int), by rw [Hq.out]; rfl, (Hg1.out.trans hgr.out).trans hg5⟩
set_option maxRecDepth 100000 in
set_option maxHeartbeats 2000000 in
theorem nhas_any (w : World) (B : Nat) (A : Option Addr) (n c : Nat) (l : List Pl) (x : Pl) (far : Nat) (h : PlsAt w B A n l) (hB : B ≤ w.heap.size) (hu : Up l) (hn : n ≤ 140737488355328) (hx : x.2 + far ≤ 1000000000) :
    Calls Try.prog 33 #[.slice A n c, .agg #[.int .i64 (x.1 : Int), .int .i64 (x.2 : Int)], .int .i64 (far : Int)] w fun e w' => e = .returned (.bool (decide ((x.1, x.2 + far) ∈ l))) ∧ Grow w w' := by
  obtain ⟨w1, hw1⟩ : ∃ w1, w.alloc (.cells #[.int .i64 (x.1 : Int), .int .i64 (x.2 : Int)] 33) = w1 := ⟨_, rfl⟩
  have hg1 : Grow w w1 := by rw [← hw1]; exact Grow.alloc _ _
  have hbx : Blk w1 w.heap.size 33 #[.int .i64 (x.1 : Int), .int .i64 (x.2 : Int)] := by rw [← hw1]; exact Blk.new _ _ _
  have hadd : (x.2 : Int) + (far : Int) = ((x.2 + far : Nat) : Int) := by omega
  have hwr : IntKind.i64.wrap ((x.2 + far : Nat) : Int) = ((x.2 + far : Nat) : Int) := IntWalk.i64_in _ (by omega)
  obtain ⟨y, hy⟩ : ∃ y : Int, y = ((x.2 + far : Nat) : Int) := ⟨_, rfl⟩
  have hc1 := hbx.cell 1
  have hf1 := hbx.frozen 1
  have hks : Keep (fun j => j = w.heap.size) w1 (w1.setCell ⟨w.heap.size, 1, none⟩ (.int .i64 y)) := Keep.setCell w1 ⟨w.heap.size, 1, none⟩ _
  have hb2 : Blk (w1.setCell ⟨w.heap.size, 1, none⟩ (.int .i64 y)) w.heap.size 33 #[.int .i64 (x.1 : Int), .int .i64 y] := hbx.set 1 _
  have hg2 : Grow w (w1.setCell ⟨w.heap.size, 1, none⟩ (.int .i64 y)) := ((Keep.grow (S := fun j => j = w.heap.size) hg1).trans' hks).below (fun j hj => by omega) (Nat.le_refl _)
  obtain ⟨w2, hw2⟩ : ∃ w2, w1.setCell ⟨w.heap.size, 1, none⟩ (.int .i64 y) = w2 := ⟨_, rfl⟩
  rw [hw2] at hb2 hg2
  have Hs := Lib.hid (nSearch_any w2 B A n c l (x.1, x.2 + far) (h.grow hg2 hB) (Nat.le_trans hB hg2.size) hu hn)
  simp only [← hy] at Hs
  rw [← hy] at hadd hwr
  have Hg2 := Lib.hid hg2
  have Hr2 := Lib.hid hb2.range
  clear hb2 hg2 hks hbx h hu hg1 hy
  go_enter Try.func33, Try.ntmps33
  go_wp2_with (refine wpList_load_mid rfl 33 (.tmp 4) rfl w.heap.size 0 rfl _ _ Hr2.out Try.underlying33 rfl (by kernel_rfl) ?_)
  refine Hs.out.mono ?_
  rintro e w3 ⟨i, rfl, hg3⟩
  have Hg3 := Lib.hid hg3
  clear hg3
  go_wp2_with fail
  go_ret
  exact ⟨rfl, Hg2.out.trans Hg3.out⟩
theorem readsB2 {w : World} {t s g : Nat} {cs : List Value} (h : cs.length = 1 * s) (hb : Blk w g t cs.toArray) : ReadsAt w w.heap.size s (some ⟨g, 0, none⟩) 1 cs :=
  ⟨h, fun _ => ⟨g, 0, rfl, hb.lt, fun j u hu => by
    rw [hb.cell, Nat.zero_add]
    simpa using hu⟩⟩
theorem own_pls {w : World} {base g n cap : Nat} {l : List Pl} (h : w.ownsRow base 33 2 (.slice (some ⟨g, 0, none⟩) n cap) n (plCs l)) (hl : l.length = n) : PlsAt w w.heap.size (some ⟨g, 0, none⟩) n l := by
  obtain ⟨A', c', e', -, -, hR⟩ := own_reads h
  injection e' with e1 e2 e3
  subst e1
  exact ⟨hl, hR⟩
set_option maxRecDepth 100000 in
set_option maxHeartbeats 4000000 in
/-- places that rise are left as they are -/
theorem nrising_any (w : World) (B : Nat) (A : Option Addr) (n c : Nat) (l : List Pl) (h : PlsAt w B A n l) (hB : B ≤ w.heap.size) (hu : Up l) (hn : n ≤ 1000000000) :
    Calls Try.prog 15 #[.slice A n c] w fun e w' => ∃ v, e = .returned v ∧ w'.ownsRow w.heap.size 33 2 v l.length (plCs l) ∧ Grow w w' := by
  have placeTy : AppTy Try.prog 47 33 (.agg #[.int .i64 0, .int .i64 0]) 2 16 := AppTy.mk' Try.underlying47 (by kernel_rfl) rfl (by decide)
  have Hlen := Lib.hid h.1
  have HR := Lib.hid (show ∀ W, Grow w W → PlsAt W B A n l from fun W hg => h.grow hg hB)
  have Hu := Lib.hid hu
  clear h hu
  go_enter Try.func15, Try.ntmps15
  go_wp2
  go_loopw [2, 4, 7] (fun v2 v4 v7 wr => ∃ (k : Nat) (v : Value), v = v2 ∧ k ≤ n ∧ v7 = .int .i64 (k : Int) ∧ Hid (wr.ownsRow w.heap.size 33 2 v (l.take k).length (plCs (l.take k))) ∧ Hid (Grow w wr)) (fun _ _ v7 _ => n - (intOf v7).toNat)
  case atStart => exact ⟨0, _, rfl, by omega, rfl, World.ownsRow_nil _ _ _ _, Grow.refl _⟩
  case round =>
    obtain ⟨k, v, rfl, hk, rfl, ho, hg⟩ := hrel
    by_cases hlt : k < n
    · have d1 : decide ((k : Int) < (n : Int)) = true := decide_eq_true (by omega)
      obtain ⟨x, hx⟩ : ∃ x, l[k]? = some x := ⟨_, List.getElem?_eq_getElem (by rw [Hlen.out]; exact hlt)⟩
      obtain ⟨b, off, rfl, hbB, hrg⟩ := (HR.out wr hg.out).range hx
      have Hrg := Lib.hid hrg
      obtain ⟨w2, hw2⟩ : ∃ w2, wr.alloc (.cells #[.int .i64 (x.1 : Int), .int .i64 (x.2 : Int)] 33) = w2 := ⟨_, rfl⟩
      have hg2 : Grow wr w2 := by rw [← hw2]; exact Grow.alloc _ _
      have hbx : Blk w2 wr.heap.size 33 #[.int .i64 (x.1 : Int), .int .i64 (x.2 : Int)] := by rw [← hw2]; exact Blk.new _ _ _
      have hkl : (l.take k).length = k := by rw [List.length_take, Hlen.out]; omega
      have Hs2 := Lib.hid (show l.take (k + 1) = l.take k ++ [x] by rw [List.take_add_one, hx]; rfl)
      have Hx := Lib.hid hx
      rw [hkl] at ho
      have Hg2 := Lib.hid hg2
      have Hbx := Lib.hid hbx
      clear hrg hx hg2 hbx hkl
      go_upto_region 4 with (refine wpList_load_mid rfl 33 (.tmp 9) rfl b (off + k * 2) rfl _ _ Hrg.out Try.underlying33 rfl (by kernel_rfl) ?_)
      clear hw2
      have Hxr := Lib.hid (show ∀ W, Grow w2 W → W.rangeAt wr.heap.size 0 [.int .i64 (x.1 : Int), .int .i64 (x.2 : Int)] from fun W hg => (Hbx.out.below hg Hbx.out.lt).range)
      have Ho2 := Lib.hid (own_below ho.out Hg2.out)
      obtain ⟨A1, c1, rfl, hkc, hcm, -⟩ := own_reads Ho2.out
      go_cut [24] from 8 to 29 (fun v24 wx => ∃ W : World, W = wx ∧ v24 = .bool true ∧ Grow w2 W)
      case first Jx Kx hJx hMx =>
        rcases Nat.eq_zero_or_pos k with hk0 | hk0
        · subst hk0
          refine wp_region_stages (by kernel_rfl) ?_
          refine anyOrder_start [] (Keep (fun _ => False)) ((fun _ W => Grow w2 W)) (FactsOn [.is (.slice A1 0 c1), .is (.int .i64 0), .is (.bool true), .is (.bool true), .is (undef), .is (undef), .is (undef), .is (undef), .is (undef), .is (undef), .is (undef), .is (undef), .is (undef), .is (.bool true)]) (fun i => 99) keep_trans keep_grow (fun _ _ _ hg h => Grow.trans h hg) (factsOn_mono _) (by kernel_rfl) (by kernel_rfl) (Grow.refl _) ?_ ?_
          · refine ⟨?_, ?_, ?_, ?_, ?_, ?_, ?_, ?_, ?_, ?_, ?_, ?_, ?_, ?_, trivial⟩
            · refine stageOf_free rfl (fun _ _ _ _ _ _ => wanted_none rfl) ?_
              intro us vals w3 a' ha hle hW hd hv K hK
              have q2 : a'.tmps[2]? = some (.slice A1 0 c1) := slot_old ha (by kernel_rfl) (by kernel_rfl)
              refine step_value (v := .slice A1 0 c1) (w2 := w3) ?_ (hK _ _ (Grow.refl _) rfl)
              go_simp
            · refine stageOf_free rfl (fun _ _ _ _ _ _ => wanted_none rfl) ?_
              intro us vals w3 a' ha hle hW hd hv K hK
              obtain ⟨d0, _⟩ := hd
              have q11 : a'.tmps[11]? = some (us 0) := slot_get ha 0 (by kernel_rfl) (by kernel_rfl)
              rw [show us 0 = .slice A1 0 c1 from d0] at q11
              refine step_value (v := .int .i64 0) (w2 := w3) ?_ (hK _ _ (Grow.refl _) rfl)
              go_simp
            · refine stageOf_free rfl (fun _ _ _ _ _ _ => wanted_none rfl) ?_
              intro us vals w3 a' ha hle hW hd hv K hK
              obtain ⟨d1, _⟩ := hd
              have q12 : a'.tmps[12]? = some (us 1) := slot_get ha 1 (by kernel_rfl) (by kernel_rfl)
              rw [show us 1 = .int .i64 0 from d1] at q12
              refine step_value (v := .bool true) (w2 := w3) ?_ (hK _ _ (Grow.refl _) rfl)
              go_simp
            · refine stageOf_free rfl (fun _ _ _ _ _ _ => wanted_none rfl) ?_
              intro us vals w3 a' ha hle hW hd hv K hK
              obtain ⟨d2, _⟩ := hd
              have q13 : a'.tmps[13]? = some (us 2) := slot_get ha 2 (by kernel_rfl) (by kernel_rfl)
              rw [show us 2 = .bool true from d2] at q13
              refine step_value (v := .bool true) (w2 := w3) ?_ (hK _ _ (Grow.refl _) rfl)
              go_simp
            · refine stageOf_skip rfl (fun us vals w3 a' ha hd => ?_) (fun _ => rfl)
              obtain ⟨d3, _⟩ := hd
              have q : a'.tmps[14]? = some (us 3) := slot_get ha 3 (by kernel_rfl) (by kernel_rfl)
              rw [show us 3 = .bool true from d3] at q
              exact wanted_other rfl rfl q
            · refine stageOf_skip rfl (fun us vals w3 a' ha hd => ?_) (fun _ => rfl)
              obtain ⟨d3, _⟩ := hd
              have q : a'.tmps[14]? = some (us 3) := slot_get ha 3 (by kernel_rfl) (by kernel_rfl)
              rw [show us 3 = .bool true from d3] at q
              exact wanted_other rfl rfl q
            · refine stageOf_skip rfl (fun us vals w3 a' ha hd => ?_) (fun _ => rfl)
              obtain ⟨d3, _⟩ := hd
              have q : a'.tmps[14]? = some (us 3) := slot_get ha 3 (by kernel_rfl) (by kernel_rfl)
              rw [show us 3 = .bool true from d3] at q
              exact wanted_other rfl rfl q
            · refine stageOf_skip rfl (fun us vals w3 a' ha hd => ?_) (fun _ => rfl)
              obtain ⟨_, d3, _⟩ := hd
              have q : a'.tmps[14]? = some (us 3) := slot_get ha 3 (by kernel_rfl) (by kernel_rfl)
              rw [show us 3 = .bool true from d3] at q
              exact wanted_other rfl rfl q
            · refine stageOf_skip rfl (fun us vals w3 a' ha hd => ?_) (fun _ => rfl)
              obtain ⟨_, d3, _⟩ := hd
              have q : a'.tmps[14]? = some (us 3) := slot_get ha 3 (by kernel_rfl) (by kernel_rfl)
              rw [show us 3 = .bool true from d3] at q
              exact wanted_other rfl rfl q
            · refine stageOf_skip rfl (fun us vals w3 a' ha hd => ?_) (fun _ => rfl)
              obtain ⟨_, _, d3, _⟩ := hd
              have q : a'.tmps[14]? = some (us 3) := slot_get ha 3 (by kernel_rfl) (by kernel_rfl)
              rw [show us 3 = .bool true from d3] at q
              exact wanted_other rfl rfl q
            · refine stageOf_skip rfl (fun us vals w3 a' ha hd => ?_) (fun _ => rfl)
              obtain ⟨_, d3, _⟩ := hd
              have q : a'.tmps[14]? = some (us 3) := slot_get ha 3 (by kernel_rfl) (by kernel_rfl)
              rw [show us 3 = .bool true from d3] at q
              exact wanted_other rfl rfl q
            · refine stageOf_skip rfl (fun us vals w3 a' ha hd => ?_) (fun _ => rfl)
              obtain ⟨_, _, d3, _, _⟩ := hd
              have q : a'.tmps[14]? = some (us 3) := slot_get ha 3 (by kernel_rfl) (by kernel_rfl)
              rw [show us 3 = .bool true from d3] at q
              exact wanted_other rfl rfl q
            · refine stageOf_skip rfl (fun us vals w3 a' ha hd => ?_) (fun _ => rfl)
              obtain ⟨_, d3, _⟩ := hd
              have q : a'.tmps[14]? = some (us 3) := slot_get ha 3 (by kernel_rfl) (by kernel_rfl)
              rw [show us 3 = .bool true from d3] at q
              exact wanted_other rfl rfl q
            · refine stageOf_free rfl (fun _ _ _ _ _ _ => wanted_none rfl) ?_
              intro us vals w3 a' ha hle hW hd hv K hK
              obtain ⟨d3, d12, _⟩ := hd
              have q14 : a'.tmps[14]? = some (us 3) := slot_get ha 3 (by kernel_rfl) (by kernel_rfl)
              rw [show us 3 = .bool true from d3] at q14
              have q23 : a'.tmps[23]? = some (us 12) := slot_get ha 12 (by kernel_rfl) (by kernel_rfl)
              rw [show us 12 = undef from d12] at q23
              refine step_value (v := .bool true) (w2 := w3) ?_ (hK _ _ (Grow.refl _) rfl)
              go_simp
          · intro us vals w5 hle hvl hW ht hf
            refine hMx _ _ (Met.intro (hJx _ _ ?_))
            generalize hF : fills _ _ _ _ = F
            have s24 : F.tmps.getD 24 undef = us 13 := by rw [← hF]; kernel_rfl
            exact ⟨F.tmps.getD 8 undef, F.tmps.getD 9 undef, F.tmps.getD 10 undef, F.tmps.getD 11 undef, F.tmps.getD 12 undef, F.tmps.getD 13 undef, F.tmps.getD 14 undef, F.tmps.getD 15 undef, F.tmps.getD 16 undef, F.tmps.getD 17 undef, F.tmps.getD 18 undef, F.tmps.getD 19 undef, F.tmps.getD 20 undef, F.tmps.getD 21 undef, F.tmps.getD 22 undef, F.tmps.getD 23 undef, F.tmps.getD 24 undef, F.tmps.getD 25 undef, F.tmps.getD 26 undef, F.tmps.getD 27 undef, F.tmps.getD 28 undef, F.tmps.getD 29 undef, ⟨_, rfl, s24.trans (hf 13 (by decide) rfl), hW⟩, by rw [← hF]; kernel_rfl⟩
        · have hkz : ((k : Int) == 0) = false := by rw [beq_eq_false_iff_ne]; omega
          obtain ⟨m, hm⟩ : ∃ m, k = m + 1 := ⟨k - 1, by omega⟩
          obtain ⟨z, hz⟩ : ∃ z, l[m]? = some z := ⟨_, List.getElem?_eq_getElem (by rw [Hlen.out]; omega)⟩
          have hzx : Lt z x := by
            obtain ⟨h1, h2⟩ := List.getElem?_eq_some_iff.1 hz
            obtain ⟨h3, h4⟩ := List.getElem?_eq_some_iff.1 Hx.out
            have := List.pairwise_iff_getElem.1 Hu.out m k h1 h3 (by omega)
            rw [h2, h4] at this
            exact this
          have hord : decide (0 < ordP x z) = true := decide_eq_true (ordP_gt.2 hzx)
          obtain ⟨g5, cap5, e5, -, -, -, -⟩ := own_slice Ho2.out hk0
          injection e5 with e5 e6 e7
          subst e5 e7
          have hzt : (l.take k)[m]? = some z := by rw [List.getElem?_take, if_pos (by omega), hz]
          have hpl := own_pls Ho2.out (by rw [List.length_take, Hlen.out]; omega)
          obtain ⟨b9, off9, e9, hb9, hr9⟩ := hpl.range hzt
          injection e9 with e9
          injection e9 with e9 e10
          subst e9 e10
          rw [Nat.zero_add] at hr9
          have Hzr := Lib.hid (show ∀ W, Grow w2 W → W.rangeAt g5 (m * 2) [.int .i64 (z.1 : Int), .int .i64 (z.2 : Int)] from fun W hg => fun j v hj => (hg.cell (p := ⟨g5, m * 2 + j, none⟩) hb9).trans (hr9 j v hj))
          have hsub : (k : Int) - 1 = (m : Int) := by omega
          have hwr : IntKind.i64.wrap (m : Int) = (m : Int) := IntWalk.i64_in _ (by omega)
          have hmk : m < k := by omega
          have hdm : decide ((m : Int) < (k : Int)) = true := decide_eq_true (by omega)
          clear hzx hz hzt hpl hr9 hm
          refine wp_region_stages (by kernel_rfl) ?_
          refine anyOrder_start [] (Keep (fun _ => False)) ((fun _ W => Grow w2 W)) (FactsOn [.is (.slice (some ⟨g5, 0, none⟩) k c1), .is (.int .i64 (k : Int)), .is (.bool false), .is (.bool false), .is (.agg #[.int .i64 (x.1 : Int), .int .i64 (x.2 : Int)]), .is (.slice (some ⟨g5, 0, none⟩) k c1), .is (.slice (some ⟨g5, 0, none⟩) k c1), .is (.int .i64 (k : Int)), .is (.int .i64 (m : Int)), .is (.pointer (some ⟨g5, m * 2, none⟩)), .is (.agg #[.int .i64 (z.1 : Int), .int .i64 (z.2 : Int)]), .is (.int .i64 (ordP x z)), .is (.bool true), .is (.bool true)]) (fun i => 99) keep_trans keep_grow (fun _ _ _ hg h => Grow.trans h hg) (factsOn_mono _) (by kernel_rfl) (by kernel_rfl) (Grow.refl _) ?_ ?_
          · refine ⟨?_, ?_, ?_, ?_, ?_, ?_, ?_, ?_, ?_, ?_, ?_, ?_, ?_, ?_, trivial⟩
            · refine stageOf_free rfl (fun _ _ _ _ _ _ => wanted_none rfl) ?_
              intro us vals w3 a' ha hle hW hd hv K hK
              have q2 : a'.tmps[2]? = some (.slice (some ⟨g5, 0, none⟩) k c1) := slot_old ha (by kernel_rfl) (by kernel_rfl)
              refine step_value (v := .slice (some ⟨g5, 0, none⟩) k c1) (w2 := w3) ?_ (hK _ _ (Grow.refl _) rfl)
              go_simp
            · refine stageOf_free rfl (fun _ _ _ _ _ _ => wanted_none rfl) ?_
              intro us vals w3 a' ha hle hW hd hv K hK
              obtain ⟨d0, _⟩ := hd
              have q11 : a'.tmps[11]? = some (us 0) := slot_get ha 0 (by kernel_rfl) (by kernel_rfl)
              rw [show us 0 = .slice (some ⟨g5, 0, none⟩) k c1 from d0] at q11
              refine step_value (v := .int .i64 (k : Int)) (w2 := w3) ?_ (hK _ _ (Grow.refl _) rfl)
              go_simp
            · refine stageOf_free rfl (fun _ _ _ _ _ _ => wanted_none rfl) ?_
              intro us vals w3 a' ha hle hW hd hv K hK
              obtain ⟨d1, _⟩ := hd
              have q12 : a'.tmps[12]? = some (us 1) := slot_get ha 1 (by kernel_rfl) (by kernel_rfl)
              rw [show us 1 = .int .i64 (k : Int) from d1] at q12
              refine step_value (v := .bool false) (w2 := w3) ?_ (hK _ _ (Grow.refl _) rfl)
              go_simp
            · refine stageOf_free rfl (fun _ _ _ _ _ _ => wanted_none rfl) ?_
              intro us vals w3 a' ha hle hW hd hv K hK
              obtain ⟨d2, _⟩ := hd
              have q13 : a'.tmps[13]? = some (us 2) := slot_get ha 2 (by kernel_rfl) (by kernel_rfl)
              rw [show us 2 = .bool false from d2] at q13
              refine step_value (v := .bool false) (w2 := w3) ?_ (hK _ _ (Grow.refl _) rfl)
              go_simp
            · refine stageOf_free rfl (fun us vals w3 a' ha hd => ?_) ?_
              · obtain ⟨d3, _⟩ := hd
                have q : a'.tmps[14]? = some (us 3) := slot_get ha 3 (by kernel_rfl) (by kernel_rfl)
                rw [show us 3 = .bool false from d3] at q
                exact wanted_some rfl rfl q
              intro us vals w3 a' ha hle hW hd hv K hK
              have q4 : a'.tmps[4]? = some (.pointer (some ⟨wr.heap.size, 0, none⟩)) := slot_old ha (by kernel_rfl) (by kernel_rfl)
              exact wp_load_mid 33 (.tmp 4) rfl wr.heap.size 0 (eval_tmp q4) _ _ (Hxr.out w3 hW) Try.underlying33 rfl (by kernel_rfl) (hK _ _ (Grow.refl _) rfl)
            · refine stageOf_free rfl (fun us vals w3 a' ha hd => ?_) ?_
              · obtain ⟨d3, _⟩ := hd
                have q : a'.tmps[14]? = some (us 3) := slot_get ha 3 (by kernel_rfl) (by kernel_rfl)
                rw [show us 3 = .bool false from d3] at q
                exact wanted_some rfl rfl q
              intro us vals w3 a' ha hle hW hd hv K hK
              have q2 : a'.tmps[2]? = some (.slice (some ⟨g5, 0, none⟩) k c1) := slot_old ha (by kernel_rfl) (by kernel_rfl)
              refine step_value (v := .slice (some ⟨g5, 0, none⟩) k c1) (w2 := w3) ?_ (hK _ _ (Grow.refl _) rfl)
              go_simp
            · refine stageOf_free rfl (fun us vals w3 a' ha hd => ?_) ?_
              · obtain ⟨d3, _⟩ := hd
                have q : a'.tmps[14]? = some (us 3) := slot_get ha 3 (by kernel_rfl) (by kernel_rfl)
                rw [show us 3 = .bool false from d3] at q
                exact wanted_some rfl rfl q
              intro us vals w3 a' ha hle hW hd hv K hK
              have q2 : a'.tmps[2]? = some (.slice (some ⟨g5, 0, none⟩) k c1) := slot_old ha (by kernel_rfl) (by kernel_rfl)
              refine step_value (v := .slice (some ⟨g5, 0, none⟩) k c1) (w2 := w3) ?_ (hK _ _ (Grow.refl _) rfl)
              go_simp
            · refine stageOf_free rfl (fun us vals w3 a' ha hd => ?_) ?_
              · obtain ⟨_, d3, _⟩ := hd
                have q : a'.tmps[14]? = some (us 3) := slot_get ha 3 (by kernel_rfl) (by kernel_rfl)
                rw [show us 3 = .bool false from d3] at q
                exact wanted_some rfl rfl q
              intro us vals w3 a' ha hle hW hd hv K hK
              obtain ⟨d6, _, _⟩ := hd
              have q17 : a'.tmps[17]? = some (us 6) := slot_get ha 6 (by kernel_rfl) (by kernel_rfl)
              rw [show us 6 = .slice (some ⟨g5, 0, none⟩) k c1 from d6] at q17
              refine step_value (v := .int .i64 (k : Int)) (w2 := w3) ?_ (hK _ _ (Grow.refl _) rfl)
              go_simp
            · refine stageOf_free rfl (fun us vals w3 a' ha hd => ?_) ?_
              · obtain ⟨_, d3, _⟩ := hd
                have q : a'.tmps[14]? = some (us 3) := slot_get ha 3 (by kernel_rfl) (by kernel_rfl)
                rw [show us 3 = .bool false from d3] at q
                exact wanted_some rfl rfl q
              intro us vals w3 a' ha hle hW hd hv K hK
              obtain ⟨d7, _, _⟩ := hd
              have q18 : a'.tmps[18]? = some (us 7) := slot_get ha 7 (by kernel_rfl) (by kernel_rfl)
              rw [show us 7 = .int .i64 (k : Int) from d7] at q18
              refine step_value (v := .int .i64 (m : Int)) (w2 := w3) ?_ (hK _ _ (Grow.refl _) rfl)
              go_simp
            · refine stageOf_free rfl (fun us vals w3 a' ha hd => ?_) ?_
              · obtain ⟨_, _, d3, _⟩ := hd
                have q : a'.tmps[14]? = some (us 3) := slot_get ha 3 (by kernel_rfl) (by kernel_rfl)
                rw [show us 3 = .bool false from d3] at q
                exact wanted_some rfl rfl q
              intro us vals w3 a' ha hle hW hd hv K hK
              obtain ⟨d5, d8, _, _⟩ := hd
              have q16 : a'.tmps[16]? = some (us 5) := slot_get ha 5 (by kernel_rfl) (by kernel_rfl)
              rw [show us 5 = .slice (some ⟨g5, 0, none⟩) k c1 from d5] at q16
              have q19 : a'.tmps[19]? = some (us 8) := slot_get ha 8 (by kernel_rfl) (by kernel_rfl)
              rw [show us 8 = .int .i64 (m : Int) from d8] at q19
              refine step_value (v := .pointer (some ⟨g5, m * 2, none⟩)) (w2 := w3) ?_ (hK _ _ (Grow.refl _) rfl)
              go_simp
            · refine stageOf_free rfl (fun us vals w3 a' ha hd => ?_) ?_
              · obtain ⟨_, d3, _⟩ := hd
                have q : a'.tmps[14]? = some (us 3) := slot_get ha 3 (by kernel_rfl) (by kernel_rfl)
                rw [show us 3 = .bool false from d3] at q
                exact wanted_some rfl rfl q
              intro us vals w3 a' ha hle hW hd hv K hK
              obtain ⟨d9, _, _⟩ := hd
              have q20 : a'.tmps[20]? = some (us 9) := slot_get ha 9 (by kernel_rfl) (by kernel_rfl)
              rw [show us 9 = .pointer (some ⟨g5, m * 2, none⟩) from d9] at q20
              exact wp_load_mid 33 (.tmp 20) rfl g5 (m * 2) (eval_tmp q20) _ _ (Hzr.out w3 hW) Try.underlying33 rfl (by kernel_rfl) (hK _ _ (Grow.refl _) rfl)
            · refine stageOf_free rfl (fun us vals w3 a' ha hd => ?_) ?_
              · obtain ⟨_, _, d3, _, _⟩ := hd
                have q : a'.tmps[14]? = some (us 3) := slot_get ha 3 (by kernel_rfl) (by kernel_rfl)
                rw [show us 3 = .bool false from d3] at q
                exact wanted_some rfl rfl q
              intro us vals w3 a' ha hle hW hd hv K hK
              obtain ⟨d4, d10, _, _, _⟩ := hd
              have q15 : a'.tmps[15]? = some (us 4) := slot_get ha 4 (by kernel_rfl) (by kernel_rfl)
              rw [show us 4 = .agg #[.int .i64 (x.1 : Int), .int .i64 (x.2 : Int)] from d4] at q15
              have q21 : a'.tmps[21]? = some (us 10) := slot_get ha 10 (by kernel_rfl) (by kernel_rfl)
              rw [show us 10 = .agg #[.int .i64 (z.1 : Int), .int .i64 (z.2 : Int)] from d10] at q21
              refine step_call (f := 27) (args := #[.agg #[.int .i64 (x.1 : Int), .int .i64 (x.2 : Int)], .agg #[.int .i64 (z.1 : Int), .int .i64 (z.2 : Int)]]) (by go_simp) ?_
              refine (norder_any w3 x z).mono ?_
              rintro e w4 ⟨rfl, hg4⟩
              exact ⟨_, rfl, hK _ _ hg4 rfl⟩
            · refine stageOf_free rfl (fun us vals w3 a' ha hd => ?_) ?_
              · obtain ⟨_, d3, _⟩ := hd
                have q : a'.tmps[14]? = some (us 3) := slot_get ha 3 (by kernel_rfl) (by kernel_rfl)
                rw [show us 3 = .bool false from d3] at q
                exact wanted_some rfl rfl q
              intro us vals w3 a' ha hle hW hd hv K hK
              obtain ⟨d11, _, _⟩ := hd
              have q22 : a'.tmps[22]? = some (us 11) := slot_get ha 11 (by kernel_rfl) (by kernel_rfl)
              rw [show us 11 = .int .i64 (ordP x z) from d11] at q22
              refine step_value (v := .bool true) (w2 := w3) ?_ (hK _ _ (Grow.refl _) rfl)
              go_simp
            · refine stageOf_free rfl (fun _ _ _ _ _ _ => wanted_none rfl) ?_
              intro us vals w3 a' ha hle hW hd hv K hK
              obtain ⟨d3, d12, _⟩ := hd
              have q14 : a'.tmps[14]? = some (us 3) := slot_get ha 3 (by kernel_rfl) (by kernel_rfl)
              rw [show us 3 = .bool false from d3] at q14
              have q23 : a'.tmps[23]? = some (us 12) := slot_get ha 12 (by kernel_rfl) (by kernel_rfl)
              rw [show us 12 = .bool true from d12] at q23
              refine step_value (v := .bool true) (w2 := w3) ?_ (hK _ _ (Grow.refl _) rfl)
              go_simp
          · intro us vals w5 hle hvl hW ht hf
            refine hMx _ _ (Met.intro (hJx _ _ ?_))
            generalize hF : fills _ _ _ _ = F
            have s24 : F.tmps.getD 24 undef = us 13 := by rw [← hF]; kernel_rfl
            exact ⟨F.tmps.getD 8 undef, F.tmps.getD 9 undef, F.tmps.getD 10 undef, F.tmps.getD 11 undef, F.tmps.getD 12 undef, F.tmps.getD 13 undef, F.tmps.getD 14 undef, F.tmps.getD 15 undef, F.tmps.getD 16 undef, F.tmps.getD 17 undef, F.tmps.getD 18 undef, F.tmps.getD 19 undef, F.tmps.getD 20 undef, F.tmps.getD 21 undef, F.tmps.getD 22 undef, F.tmps.getD 23 undef, F.tmps.getD 24 undef, F.tmps.getD 25 undef, F.tmps.getD 26 undef, F.tmps.getD 27 undef, F.tmps.getD 28 undef, F.tmps.getD 29 undef, ⟨_, rfl, s24.trans (hf 13 (by decide) rfl), hW⟩, by rw [← hF]; kernel_rfl⟩
      case rest =>
      obtain ⟨w5, rfl, rfl, hg5⟩ := hcut
      have hown := own_below (own_below Ho2.out hg5) (Grow.alloc w5 (.cells #[.int .i64 (x.1 : Int), .int .i64 (x.2 : Int)] 33))
      have hR1 : ReadsAt (w5.alloc (.cells #[.int .i64 (x.1 : Int), .int .i64 (x.2 : Int)] 33)) (w5.alloc (.cells #[.int .i64 (x.1 : Int), .int .i64 (x.2 : Int)] 33)).heap.size 2 (some ⟨w5.heap.size, 0, none⟩) 1 [.int .i64 (x.1 : Int), .int .i64 (x.2 : Int)] := readsB2 rfl (Blk.new _ _ _)
      have hgt : Grow w (w5.alloc (.cells #[.int .i64 (x.1 : Int), .int .i64 (x.2 : Int)] 33)) := ((hg.out.trans Hg2.out).trans hg5).trans (Grow.alloc _ _)
      have Hr5 := Lib.hid (Hxr.out w5 hg5)
      go_wp2_with (first | (refine wpList_load_mid rfl 33 (.tmp 4) rfl wr.heap.size 0 rfl _ _ Hr5.out Try.underlying33 rfl (by kernel_rfl) ?_) | (at_builtin; refine wpList_append_reads _ rfl (.tmp 25) (.tmp 27) rfl placeTy rfl hown rfl hR1 (by simp [Value.oneCell']) (by simp only [maxLen]; omega) (by omega) hgt.size ?_; intro v' w6 hown2 hgr2 hat2))
      have Ho6 := Lib.hid (show w6.ownsRow w.heap.size 33 2 v' (l.take (k + 1)).length (plCs (l.take (k + 1))) by
        rw [Hs2.out, plCs_snoc, List.length_append, List.length_take, Hlen.out, Nat.min_eq_left hk]
        exact hown2)
      have Hg6 := Lib.hid (show Grow w w6 from ((Keep.grow (S := fun j => (Value.slice A1 k c1).ownBlock = some j) hgt).trans' (Keep.grown hgr2)).below (fun j hj => (hown.lt j hj).1) (Nat.le_refl _))
      clear hown hown2 hgr2 hat2 hR1 hgt
      go_roundw
      case rel => exact ⟨k + 1, _, rfl, by omega, by go_num, Ho6, Hg6⟩
      case measure => simp [intOf]; omega
    · have d1 : decide ((k : Int) < (n : Int)) = false := decide_eq_false (by omega)
      obtain rfl : k = n := by omega
      rw [List.take_of_length_le (show l.length ≤ k by rw [Hlen.out]; exact Nat.le_refl _)] at ho
      go_wp2_with fail
      go_ret
      exact ⟨_, rfl, ho.out, hg.out⟩
end Go.Proofs.Ytamdejidkgnaeaa
