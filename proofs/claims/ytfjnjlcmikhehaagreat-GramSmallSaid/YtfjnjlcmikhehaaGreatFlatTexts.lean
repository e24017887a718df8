/-
  The walk of mudlarkkit's flatTexts: rows that lie apart are found to lie apart; only they turn. Printed by gen/flatm.py.
-/
import Derived.Deep.MidRow
import Derived.Deep.DeepCutAuto
import Derived.Deep.CutRange
import Derived.Deep.CutBlock
import Derived.LoopTactic
import Derived.Test.YtfjnjlcmikhehaaGreatBaseE
import Derived.Test.YtfjnjlcmikhehaaGreatBaseD
import Derived.Test.YtfjnjlcmikhehaaGreatGramMark
namespace Go.Proofs.YtfjnjlcmikhehaaGreat
open Go.RowKit

/-- a place's mark among texts -/
def MText (_ : World) (k j : Nat) (cs : List Value) : Prop := cs = [.string (mkT k j)]
theorem mtext_ok : MarkOk 9 30 1 MText where
  len := fun h => by rw [show _ = [_] from h]; rfl
  one := fun h u hu => by rw [show _ = [_] from h] at hu; simp only [List.mem_cons, List.not_mem_nil, or_false] at hu; rw [hu]; rfl
  keep := fun h _ => h
theorem markText_at (k j : Nat) (x y : Int) (w : World) (hx : x = (k : Int)) (hy : y = (j : Int)) (hk : k ≤ 1000000) (hj : j ≤ 1000000000) :
    Calls Tryz.prog 59 #[.int .i64 x, .int .i64 y] w fun e w' => e = .returned (.string (mkT k j)) ∧ Grow w w' := by
  subst hx hy
  exact markText_any k j w hk hj
theorem there_one {w : World} {g i : Nat} (h : w.there g (i * 1) 1) : ∃ x, w.cell? ⟨g, i, none⟩ = some x := by
  have h1 := (h 0 (by omega)).1
  rw [Nat.mul_one, Nat.add_zero] at h1
  exact Option.isSome_iff_exists.1 h1
theorem text_cell {w : World} {base e g n cap k q : Nat} {L : List Value} (h : w.ownsRow base e 1 (.slice (some ⟨g, 0, none⟩) n cap) n L) (hq : q < n) {w' : World} (hm : MText w' k q (seg 1 q L)) : w.cell? ⟨g, q, none⟩ = some (.string (mkT k q)) := by
  have h1 := own_seg h hq 0 (.string (mkT k q)) (by rw [show seg 1 q L = [_] from hm]; rfl)
  rw [Nat.mul_one, Nat.add_zero] at h1
  exact h1
set_option maxRecDepth 100000 in
set_option maxHeartbeats 8000000 in
theorem flatTexts_any (w : World) (B Bt : Nat) (A : Option Addr) (m c : Nat) (vs : List Value) (N : Nat → Nat) (hT : w.ownsRow Bt 30 1 (.slice A m c) m vs) (hV : ∀ (j : Nat) (v : Value), vs[j]? = some v → ∃ L, w.ownsRow B 9 1 v (N j) L) (hd : DistV vs)
    (hB : B ≤ w.heap.size) (hm : m ≤ 100000) (hN : ∀ j, N j ≤ 1000000) :
    Calls Tryz.prog 38 #[.slice A m c] w fun e w' => e = .returned (.bool true) ∧ Keep (OwnS vs) w w' := by
  have elemTy : AppTy Tryz.prog 30 9 (.string .empty) 1 16 := AppTy.mk' Tryz.underlying30 (by kernel_rfl) rfl (by decide)
  have hM := mtext_ok
  have hne : 9 ≠ 30 := by decide
  have HN := Lib.hid hN
  have Hd := Lib.hid hd
  have hvl : vs.length = m := by have := hT.1; omega
  have Hvl := Lib.hid hvl
  have hP0 : PhM 9 30 1 MText w w B Bt A m c vs N 0 0 := ⟨hT, fun j v hv => by
    obtain ⟨L, hL⟩ := hV j v hv
    exact ⟨L, hL, fun q _ h => by omega⟩, Keep.refl _ _⟩
  clear hN hd hvl hV hT
  go_enter Tryz.func38, Tryz.ntmps38
  go_wp2
  go_loopw [3] (fun v3 wr => ∃ k : Nat, k ≤ m ∧ v3 = .int .i64 (k : Int) ∧ PhM 9 30 1 MText w wr B Bt A m c vs N k 0) (fun v3 _ => m - (intOf v3).toNat)
  case atStart => exact ⟨0, by omega, rfl, hP0⟩
  case round =>
    clear hP0
    obtain ⟨k, hk, rfl, hP⟩ := hrel
    obtain ⟨wo, rfl⟩ : ∃ wo : World, wo = wr := ⟨_, rfl⟩
    by_cases hlt : k < m
    · obtain ⟨r, cap, e, -, -, -, -⟩ := own_slice hP.tab (by omega)
      injection e with e1 e2 e3
      subst e1 e3
      obtain ⟨v, hv⟩ : ∃ v, vs[k]? = some v := ⟨_, List.getElem?_eq_getElem (by rw [Hvl.out]; exact hlt)⟩
      obtain ⟨n, hn⟩ : ∃ n, n = N k := ⟨_, rfl⟩
      obtain ⟨A1, c1, rfl, -, -, -⟩ : ∃ A1 c1, v = .slice A1 n c1 ∧ n ≤ c1 ∧ c1 ≤ maxLen ∧ True := by
        obtain ⟨L, hL, _⟩ := hP.own k v hv
        obtain ⟨A1, c1, e, h1, h2, _⟩ := own_reads hL
        rw [hn]
        exact ⟨A1, c1, e, h1, h2, trivial⟩
      have hnb : n ≤ 1000000 := by rw [hn]; exact HN.out k
      have Hv := Lib.hid hv
      have Hn := Lib.hid hn
      clear hv hn
      go_wp2
      go_loopw [4] (fun v4 wr => ∃ i : Nat, i ≤ n ∧ v4 = .int .i64 (i : Int) ∧ PhM 9 30 1 MText w wr B Bt (some ⟨r, 0, none⟩) m c vs N k i) (fun v4 _ => n - (intOf v4).toNat)
      case atStart => exact ⟨0, by omega, rfl, hP⟩
      case round =>
        clear hP
        obtain ⟨i, hi, rfl, hP⟩ := hrel
        have hcv := own_cell hP.tab Hv.out
        by_cases hli : i < n
        · obtain ⟨L, hL, -⟩ := hP.own k _ Hv.out
          rw [← Hn.out] at hL
          obtain ⟨b, cap, e, -, -, -, -⟩ := own_slice hL (by omega)
          injection e with e1 e2 e3
          subst e1 e3
          have hrz : r < wr.heap.size := (hP.tab.lt r rfl).2
          have Hcur := Lib.hid (own_obj hL rfl)
          have Hth := Lib.hid (own_there hL hli)
          have Hcv := Lib.hid hcv
          have HP := Lib.hid hP
          clear hP hL
          go_upto_block 3 with (fail)
          go_cut [] from 31 to 39 (fun wx => PhM 9 30 1 MText w wx B Bt (some ⟨r, 0, none⟩) m c vs N k (i + 1))
          case first Jx Kx hJx hMx =>
            go_upto_region 7 with (fail)
            refine wp_region_stages (by kernel_rfl) ?_
            refine anyOrder_start [9] (KeepNot 9 30) ((StoreW wr b (i * 1) fun w cs => MText w k i cs)) (FactsOn [.is (.slice (some ⟨r, 0, none⟩) m c), .is (.int .i64 (k : Int)), .is (.pointer (some ⟨r, k, none⟩)), .is (.slice (some ⟨b, 0, none⟩) n c1), .is (.int .i64 (i : Int)), .is (.int .i64 (k : Int)), .is (.int .i64 (i : Int)), .is (.string (mkT k i)), .is (.pointer (some ⟨b, i, none⟩)), .any]) (fun i => if i = 3 then 0 else 99) keepNot_trans keepNot_grow (StoreW.grow) (factsOn_mono _) (by kernel_rfl) (by kernel_rfl) (Grow.refl _) ?_ ?_
            · refine ⟨?_, ?_, ?_, ?_, ?_, ?_, ?_, ?_, ?_, ?_, trivial⟩
              · refine stageOf_free rfl (fun _ _ _ _ _ _ => wanted_none rfl) ?_
                intro us vals w3 a' ha hle hW hd hv K hK
                have q0 : a'.tmps[0]? = some (.slice (some ⟨r, 0, none⟩) m c) := slot_old ha (by kernel_rfl) (by kernel_rfl)
                exact step_value (w2 := w3) (by go_simp) (hK _ _ (Grow.refl _) rfl)
              · refine stageOf_free rfl (fun _ _ _ _ _ _ => wanted_none rfl) ?_
                intro us vals w3 a' ha hle hW hd hv K hK
                have q3 : a'.tmps[3]? = some (.int .i64 (k : Int)) := slot_old ha (by kernel_rfl) (by kernel_rfl)
                exact step_value (w2 := w3) (by go_simp) (hK _ _ (Grow.refl _) rfl)
              · refine stageOf_free rfl (fun _ _ _ _ _ _ => wanted_none rfl) ?_
                intro us vals w3 a' ha hle hW hd hv K hK
                obtain ⟨d0, d1, _⟩ := hd
                have q31 : a'.tmps[31]? = some (us 0) := slot_get ha 0 (by kernel_rfl) (by kernel_rfl)
                rw [show us 0 = .slice (some ⟨r, 0, none⟩) m c from d0] at q31
                have q32 : a'.tmps[32]? = some (us 1) := slot_get ha 1 (by kernel_rfl) (by kernel_rfl)
                rw [show us 1 = .int .i64 (k : Int) from d1] at q32
                refine step_value (v := .pointer (some ⟨r, k, none⟩)) (w2 := w3) ?_ (hK _ _ (Grow.refl _) rfl)
                go_simp
                (try (intro h; omega))
              · refine stageOf_free rfl (fun _ _ _ _ _ _ => wanted_none rfl) ?_
                intro us vals w3 a' ha hle hW hd hv K hK
                obtain ⟨d2, _⟩ := hd
                obtain rfl := List.eq_nil_of_length_eq_zero (Nat.le_zero.1 (show vals.length ≤ 0 from hv))
                have q33 : a'.tmps[33]? = some (us 2) := slot_get ha 2 (by kernel_rfl) (by kernel_rfl)
                rw [show us 2 = .pointer (some ⟨r, k, none⟩) from d2] at q33
                have hc : w3.cell? ⟨r, k, none⟩ = some (.slice (some ⟨b, 0, none⟩) n c1) := (Below.cell (hW) (p := ⟨r, k, none⟩) hrz).trans Hcv.out
                refine step_value (v := .slice (some ⟨b, 0, none⟩) n c1) (w2 := w3) ?_ (hK _ _ (Grow.refl _) rfl)
                go_simp
              · refine stageOf_free rfl (fun _ _ _ _ _ _ => wanted_none rfl) ?_
                intro us vals w3 a' ha hle hW hd hv K hK
                have q4 : a'.tmps[4]? = some (.int .i64 (i : Int)) := slot_old ha (by kernel_rfl) (by kernel_rfl)
                exact step_value (w2 := w3) (by go_simp) (hK _ _ (Grow.refl _) rfl)
              · refine stageOf_free rfl (fun _ _ _ _ _ _ => wanted_none rfl) ?_
                intro us vals w3 a' ha hle hW hd hv K hK
                have q3 : a'.tmps[3]? = some (.int .i64 (k : Int)) := slot_old ha (by kernel_rfl) (by kernel_rfl)
                exact step_value (w2 := w3) (by go_simp) (hK _ _ (Grow.refl _) rfl)
              · refine stageOf_free rfl (fun _ _ _ _ _ _ => wanted_none rfl) ?_
                intro us vals w3 a' ha hle hW hd hv K hK
                have q4 : a'.tmps[4]? = some (.int .i64 (i : Int)) := slot_old ha (by kernel_rfl) (by kernel_rfl)
                exact step_value (w2 := w3) (by go_simp) (hK _ _ (Grow.refl _) rfl)
              · refine stageOf_free rfl (fun _ _ _ _ _ _ => wanted_none rfl) ?_
                intro us vals w3 a' ha hle hW hd hv K hK
                obtain ⟨d5, d6, _⟩ := hd
                have q36 : a'.tmps[36]? = some (us 5) := slot_get ha 5 (by kernel_rfl) (by kernel_rfl)
                rw [show us 5 = .int .i64 (k : Int) from d5] at q36
                have q37 : a'.tmps[37]? = some (us 6) := slot_get ha 6 (by kernel_rfl) (by kernel_rfl)
                rw [show us 6 = .int .i64 (i : Int) from d6] at q37
                refine step_call (f := 59) (args := #[.int .i64 (k), .int .i64 (i : Int)]) (by go_simp) ?_
                refine (markText_at k i _ _ w3 rfl rfl (by omega) (by omega)).mono ?_
                rintro e w4 ⟨rfl, hg4⟩
                exact ⟨_, rfl, hK _ _ hg4 rfl⟩
              · refine stageOf_free rfl (fun _ _ _ _ _ _ => wanted_none rfl) ?_
                intro us vals w3 a' ha hle hW hd hv K hK
                obtain ⟨d3, d4, _, _, _, _, _, _, _, _, _⟩ := hd
                have q34 : a'.tmps[34]? = some (us 3) := slot_get ha 3 (by kernel_rfl) (by kernel_rfl)
                rw [show us 3 = .slice (some ⟨b, 0, none⟩) n c1 from d3] at q34
                have q35 : a'.tmps[35]? = some (us 4) := slot_get ha 4 (by kernel_rfl) (by kernel_rfl)
                rw [show us 4 = .int .i64 (i : Int) from d4] at q35
                refine step_value (v := .pointer (some ⟨b, i, none⟩)) (w2 := w3) ?_ (hK _ _ (Grow.refl _) rfl)
                go_simp
                (try (intro h; omega))
              · refine stageOf_mem (t := 0) rfl ?_
                intro us vals w3 a' ha hle hW hd hv
                obtain ⟨d8, d7, _, _, _, _, _, _, _, _, _, _⟩ := hd
                obtain rfl := List.eq_nil_of_length_eq_zero (Nat.le_zero.1 (show vals.length ≤ 0 from Nat.le_of_eq hv))
                refine ⟨wanted_none rfl, fun K hK => ?_⟩
                have q39 : a'.tmps[39]? = some (us 8) := slot_get ha 8 (by kernel_rfl) (by kernel_rfl)
                rw [show us 8 = .pointer (some ⟨b, i, none⟩) from d8] at q39
                have q38 : a'.tmps[38]? = some (us 7) := slot_get ha 7 (by kernel_rfl) (by kernel_rfl)
                rw [show us 7 = .string (mkT k i) from d7] at q38
                have hb3 := Grow.blkOf hW Hcur.out.choose_spec
                have hf := hb3.frozen i
                obtain ⟨x0, hc⟩ := there_one (there_grow Hth.out hW)
                refine step_skip (w2 := w3.setCell ⟨b, i, none⟩ (.string (mkT k i))) ?_ (hK _ _ (KeepNot.turn (Keep.setCell w3 ⟨b, i, none⟩ _) hb3 (Or.inl rfl)) ⟨w3, [.string (mkT k i)], hW, rfl, by rw [Nat.mul_one]; exact Grow.refl _⟩)
                go_simp
            · intro us vals w3 hle hvl hV _ _
              obtain ⟨x1, rfl⟩ := List.length_eq_one_iff.1 hvl
              obtain ⟨w4, cs, hg4, hm4, hg5⟩ := hV
              have hst := (HP.out.grow hM hg4).store hM hne Hd.out (b := b) (cap := c1) (by rw [← Hn.out]; exact Hv.out) (by rw [← Hn.out]; exact hli) hm4
              (try simp only [Exit.inBlock, Exit.then])
              exact hMx _ _ (Met.intro (hJx _ _ ⟨us 0, us 1, us 2, us 3, us 4, us 5, us 6, us 7, us 8, hst.grow hM hg5, by kernel_rfl⟩))
          case rest =>
            have HP2 := Lib.hid hcut
            clear hcut HP
            go_wp2
            go_roundw
            case rel => exact ⟨i + 1, by omega, by go_num, HP2.out⟩
            case measure => simp [intOf]; omega
        · obtain rfl : i = n := by omega
          have hP2 := (show PhM 9 30 1 MText w wr B Bt (some ⟨r, 0, none⟩) m c vs N k (N k) by rw [← Hn.out]; exact hP).row
          clear hP
          go_wp2
          go_roundw
          case rel => exact ⟨k + 1, by omega, by go_num, hP2⟩
          case measure => simp [intOf]; omega
    · obtain rfl : m = k := by omega
      have hH0 := hP.keep.size
      have hfb0 := hP.start hM (List.replicate m (Value.slice none 0 0)) (by simp)
      have hmk := run_make_cells (P := Tryz.prog) (show AppTy Tryz.prog 39 30 (.slice none 0 0) 1 24 from AppTy.mk' Tryz.underlying39 (by kernel_rfl) rfl (by decide)) rfl .i64 .i64 m (by omega) (by omega) wo
      have hBo : B ≤ wo.heap.size := by omega
      obtain ⟨H0, hH⟩ : ∃ H0, H0 = wo.heap.size := ⟨_, rfl⟩
      clear hP hk hlt
      go_wp2_with fail
      rw [← hH] at hfb0 hBo ⊢
      have HH := Lib.hid hH
      clear hH hmk hH0
      go_loopw [6] (fun v6 wr => ∃ (k : Nat) (gs : List Value), k ≤ m ∧ v6 = .int .i64 (k : Int) ∧ FBM 9 30 1 MText w wr B Bt A m c vs N H0 H0 gs ∧ GPM 9 1 MText wr B vs gs N H0 k 64) (fun v6 _ => m - (intOf v6).toNat)
      case atStart => exact ⟨0, _, by omega, rfl, hfb0, GPM.none⟩
      case round =>
        clear hfb0
        obtain ⟨k, gs, hk, rfl, hfb, hgp⟩ := hrel
        obtain ⟨wp, rfl⟩ : ∃ wp : World, wp = wr := ⟨_, rfl⟩
        by_cases hlt : k < m
        · obtain ⟨r, cap, e, -, -, -, -⟩ := own_slice hfb.tab (by omega)
          injection e with e1 e2 e3
          subst e1 e3
          obtain ⟨v, hv⟩ : ∃ v, vs[k]? = some v := ⟨_, List.getElem?_eq_getElem (by rw [Hvl.out]; exact hlt)⟩
          obtain ⟨n, hn⟩ : ∃ n, n = N k := ⟨_, rfl⟩
          obtain ⟨L0, hov, hmv⟩ := hfb.own k v hv
          obtain ⟨A1, c1, rfl, -, -, -⟩ := own_reads hov
          rw [← hn] at hv
          have hnb : n ≤ 1000000 := by rw [hn]; exact HN.out k
          have Hv := Lib.hid hv
          have Hn := Lib.hid hn
          have hcv := own_cell hfb.tab hv
          have hlv := LocV.startM hfb hv
          rw [← hn] at hov hlv hmv
          have Hov := Lib.hid hov
          have Hmv := Lib.hid hmv
          have Hlv := Lib.hid hlv
          have Hfb := Lib.hid hfb
          have Hgp := Lib.hid hgp
          clear hv hn hov hmv hlv hfb hgp
          go_wp2_with fail
          go_loopw [7, 8] (fun v7 v8 wr => ∃ (i : Nat) (g : Value) (L : List Value), i ≤ 64 ∧ v8 = .int .i64 (i : Int) ∧ v7 = g ∧ FBM 9 30 1 MText w wr B Bt (some ⟨r, 0, none⟩) m c vs N H0 H0 gs ∧ GPM 9 1 MText wr B vs gs N H0 k 64 ∧ wr.ownsRow B 9 1 g (n + i) L ∧ MarksTo 1 MText wr k (n + i) L ∧ LocV vs gs N H0 k g (n + i)) (fun _ v8 _ => 64 - (intOf v8).toNat)
          case atStart => exact ⟨0, _, L0, by omega, rfl, rfl, Hfb.out, Hgp.out, Hov.out, Hmv.out, Hlv.out⟩
          case round =>
            clear Hfb Hgp Hov Hmv Hlv hcv
            obtain ⟨i, g, L, hi, rfl, rfl, hfb, hgp, hog, hmg, hlg⟩ := hrel
            have hcv := own_cell hfb.tab Hv.out
            by_cases hli : i < 64
            · have Hfb := Lib.hid hfb
              have Hgp := Lib.hid hgp
              have Hog := Lib.hid hog
              have Hmg := Lib.hid hmg
              have Hlg := Lib.hid hlg
              have hbz0 : B ≤ wr.heap.size := by have := hfb.hz; omega
              clear hfb hgp hog hmg hlg
              go_wp2_with fail
              refine (markText_at k (n + i) _ _ _ rfl (by omega) (by omega) (by omega)).mono ?_
              rintro e w8 ⟨rfl, hg8⟩
              obtain ⟨t8, ht8⟩ : ∃ t, t = mkT k (n + i) := ⟨_, rfl⟩
              have hm8 : MText w8 k (n + i) [.string t8] := by rw [ht8]; rfl
              rw [← ht8]
              clear ht8
              have hgA : Grow wr (w8.alloc (.cells #[.string t8] 9)) := hg8.trans (Grow.alloc _ _)
              have hbz : B ≤ (w8.alloc (.cells #[.string t8] 9)).heap.size := by have := hg8.size; simp; omega
              have Hm8 := Lib.hid hm8
              clear hm8
              go_wp2_with (at_builtin; refine wpList_append_two _ rfl (.tmp 57) (.tmp 67) rfl elemTy rfl (own_below Hog.out hgA) rfl (ReadsAt.madeS w8 9 1 [.string t8] rfl) (by simp [Value.oneCell']) (by simp only [maxLen]; omega) (by omega) hbz ?_; intro g' w9 hown9 htw)
              have hk9 : KeepNot 9 30 wr w9 := (KeepNot.grow hgA).trans (htw.not (own_below Hog.out hgA))
              obtain ⟨h1, h2, h3⟩ := step_twoM hM hne Hd.out (Hfb.out.grow hM hgA) (Hgp.out.grow hM hgA) (own_below Hog.out hgA) ((Hmg.out.keep hM (KeepNot.grow hgA)).less (by rw [← Hn.out]; omega)) (by rw [← Hn.out]; omega) Hlg.out hown9 htw
              have h4 := (Hmg.out.keep hM hk9).snoc (by have := Hog.out.1; omega) (hM.keep Hm8.out ((KeepNot.grow (Grow.alloc _ _)).trans (htw.not (own_below Hog.out hgA)))) rfl
              clear htw hk9
              go_wp2
              go_roundw
              case rel => exact ⟨i + 1, _, _, by omega, by go_num, rfl, h1, h2, hown9, h4, h3⟩
              case measure => simp [intOf]; omega
            · obtain rfl : i = 64 := by omega
              obtain ⟨A5, c5, rfl, -, -, -⟩ := own_reads hog
              obtain ⟨old, hold⟩ : ∃ old, gs.toArray[k]? = some old := ⟨gs[k]'(by rw [hfb.glen]; exact hlt), by simp [hfb.glen, hlt]⟩
              have hcq := hfb.gtab.cell k
              rw [hold] at hcq
              have hfq := hfb.gtab.frozen k
              have hg2 := hgp.put hM hfb hne Hd.out (g := .slice A5 (n + 64) c5) (L := L) (by rw [← Hn.out]; exact hog) (by rw [← Hn.out]; exact hmg) (by rw [← Hn.out]; exact hlg) hlt
              have hf2 := hfb.setTab hM hne k (.slice A5 (n + 64) c5)
              have Hg2 := Lib.hid hg2
              have Hf2 := Lib.hid hf2
              clear hfb hgp hog hlg hg2 hf2 hold hmg
              go_wp2
              go_roundw
              case rel => exact ⟨k + 1, _, by omega, by go_num, Hf2.out, Hg2.out⟩
              case measure => simp [intOf]; omega
        · obtain rfl : m = k := by omega
          have Hfbp := Lib.hid hfb
          have Hgpp := Lib.hid hgp
          clear hfb hgp
          go_wp2_with fail
          go_loopw [9] (fun v9 wr => ∃ k : Nat, k ≤ m ∧ v9 = .int .i64 (k : Int) ∧ Grow wp wr) (fun v9 _ => m - (intOf v9).toNat)
          case atStart => exact ⟨0, by omega, rfl, Grow.refl _⟩
          case round =>
            obtain ⟨k, hk2, rfl, hgk⟩ := hrel
            obtain ⟨w5, rfl⟩ : ∃ w5 : World, w5 = wr := ⟨_, rfl⟩
            have hfb := Hfbp.out.grow hM hgk
            have hgp := Hgpp.out.grow hM hgk
            by_cases hlt : k < m
            · obtain ⟨r, cap, e, -, -, -, -⟩ := own_slice hfb.tab (by omega)
              injection e with e1 e2 e3
              subst e1 e3
              obtain ⟨v, hv⟩ : ∃ v, vs[k]? = some v := ⟨_, List.getElem?_eq_getElem (by rw [Hvl.out]; exact hlt)⟩
              obtain ⟨g, hg⟩ : ∃ g, gs[k]? = some g := ⟨_, List.getElem?_eq_getElem (by rw [hfb.glen]; exact hlt)⟩
              obtain ⟨n, hn⟩ : ∃ n, n = N k := ⟨_, rfl⟩
              obtain ⟨Lv, hov, hmv⟩ := hfb.own k v hv
              obtain ⟨A1, c1, rfl, -, -, -⟩ := own_reads hov
              obtain ⟨L, hL, hLm⟩ := hgp.own k g hlt hg
              obtain ⟨b, c2, rfl, -, -, -, -⟩ := own_slice hL (by omega)
              rw [← hn] at hv hov hg hL hLm hmv
              have hnb : n ≤ 1000000 := by rw [hn]; exact HN.out k
              have hcv := own_cell hfb.tab hv
              have hcg := hfb.gtab.cell k
              rw [List.getElem?_toArray, hg] at hcg
              have hrz : r < w5.heap.size := (hfb.tab.lt r rfl).2
              have hqz : H0 < w5.heap.size := hfb.gtab.lt
              have Hov := Lib.hid hov
              have Hmv := Lib.hid hmv
              have HL := Lib.hid hL
              have HLm := Lib.hid hLm
              have Hcv := Lib.hid hcv
              have Hcg := Lib.hid hcg
              clear hfb hgp hv hg hn hov hL hLm hmv
              go_wp2_with fail
              clear hcv hcg
              go_loopw [10] (fun v10 wr => ∃ i : Nat, i ≤ n + 64 ∧ v10 = .int .i64 (i : Int) ∧ Grow w5 wr) (fun v10 _ => n + 64 - (intOf v10).toNat)
              case atStart => exact ⟨0, by omega, rfl, Grow.refl _⟩
              case round =>
                obtain ⟨i, hi, rfl, hgi⟩ := hrel
                have hcg : wr.cell? ⟨H0, k, none⟩ = some (.slice (some ⟨b, 0, none⟩) (n + 64) c2) := (hgi.cell (p := ⟨H0, k, none⟩) hqz).trans Hcg.out
                by_cases hli : i < n + 64
                · have Hgi := Lib.hid hgi
                  have Hc1 := Lib.hid (text_cell HL.out (by omega) (HLm.out i hli))
                  have hbz1 : b < w5.heap.size := (HL.out.lt b rfl).2
                  have hGw : ∀ W, Grow wr W → Grow w5 W := fun W h => hgi.trans h
                  clear hgi
                  by_cases hin : i < n
                  · obtain ⟨bv, cv, e, -, -, -, -⟩ := own_slice Hov.out (by omega)
                    injection e with e1 e2 e3
                    subst e1 e3
                    have Hc2 := Lib.hid (text_cell Hov.out hin (Hmv.out i hin))
                    have hbz2 : bv < w5.heap.size := (Hov.out.lt bv rfl).2
                    have hg1 : decide (i < n) = true := by simpa using hin
                    have hg2 : decide ((i : Int) < (n : Int)) = true := by simpa using hin
                    go_upto_region 24 with (fail)
                    go_cut [122] from 88 to 122 (fun vx wx => vx = .bool false ∧ Grow wr wx)
                    case first Jx Kx hJx hMx =>
                      refine wp_region_stages (by kernel_rfl) ?_
                      refine anyOrder_start [] (KeepNot 9 30) ((fun _ w => Grow wr w)) (FactsOn [.is (.slice (some ⟨H0, 0, none⟩) m m), .is (.int .i64 (k : Int)), .is (.pointer (some ⟨H0, k, none⟩)), .is (.slice (some ⟨b, 0, none⟩) (n + 64) c2), .is (.int .i64 (i : Int)), .is (.pointer (some ⟨b, i, none⟩)), .is (.string (mkT k i)), .is (.int .i64 (k : Int)), .is (.int .i64 (i : Int)), .is (.string (mkT k i)), .is (.bool true), .is (.bool false), .is (.bool false), .is (.int .i64 (i : Int)), .is (.slice (some ⟨r, 0, none⟩) m c), .is (.int .i64 (k : Int)), .is (.pointer (some ⟨r, k, none⟩)), .is (.slice (some ⟨bv, 0, none⟩) n c1), .is (.int .i64 (n : Int)), .is (.bool true), .is (.bool true), .is (.slice (some ⟨r, 0, none⟩) m c), .is (.int .i64 (k : Int)), .is (.pointer (some ⟨r, k, none⟩)), .is (.slice (some ⟨bv, 0, none⟩) n c1), .is (.int .i64 (i : Int)), .is (.pointer (some ⟨bv, i, none⟩)), .is (.string (mkT k i)), .is (.int .i64 (k : Int)), .is (.int .i64 (i : Int)), .is (.string (mkT k i)), .is (.bool true), .is (.bool false), .is (.bool false), .is (.bool false)]) (fun i => 99) keepNot_trans keepNot_grow (fun _ _ _ hg h => Grow.trans h hg) (factsOn_mono _) (by kernel_rfl) (by kernel_rfl) (Grow.refl _) ?_ ?_
                      · refine ⟨?_, ?_, ?_, ?_, ?_, ?_, ?_, ?_, ?_, ?_, ?_, ?_, ?_, ?_, ?_, ?_, ?_, ?_, ?_, ?_, ?_, ?_, ?_, ?_, ?_, ?_, ?_, ?_, ?_, ?_, ?_, ?_, ?_, ?_, ?_, trivial⟩
                        · refine stageOf_free rfl (fun _ _ _ _ _ _ => wanted_none rfl) ?_
                          intro us vals w3 a' ha hle hW hd hv K hK
                          have q5 : a'.tmps[5]? = some (.slice (some ⟨H0, 0, none⟩) m m) := slot_old ha (by kernel_rfl) (by kernel_rfl)
                          exact step_value (w2 := w3) (by go_simp) (hK _ _ (Grow.refl _) rfl)
                        · refine stageOf_free rfl (fun _ _ _ _ _ _ => wanted_none rfl) ?_
                          intro us vals w3 a' ha hle hW hd hv K hK
                          have q9 : a'.tmps[9]? = some (.int .i64 (k : Int)) := slot_old ha (by kernel_rfl) (by kernel_rfl)
                          exact step_value (w2 := w3) (by go_simp) (hK _ _ (Grow.refl _) rfl)
                        · refine stageOf_free rfl (fun _ _ _ _ _ _ => wanted_none rfl) ?_
                          intro us vals w3 a' ha hle hW hd hv K hK
                          obtain ⟨d0, d1, _⟩ := hd
                          have q88 : a'.tmps[88]? = some (us 0) := slot_get ha 0 (by kernel_rfl) (by kernel_rfl)
                          rw [show us 0 = .slice (some ⟨H0, 0, none⟩) m m from d0] at q88
                          have q89 : a'.tmps[89]? = some (us 1) := slot_get ha 1 (by kernel_rfl) (by kernel_rfl)
                          rw [show us 1 = .int .i64 (k : Int) from d1] at q89
                          refine step_value (v := .pointer (some ⟨H0, k, none⟩)) (w2 := w3) ?_ (hK _ _ (Grow.refl _) rfl)
                          go_simp
                          (try (intro h; omega))
                        · refine stageOf_free rfl (fun _ _ _ _ _ _ => wanted_none rfl) ?_
                          intro us vals w3 a' ha hle hW hd hv K hK
                          obtain ⟨d2, _⟩ := hd
                          have q90 : a'.tmps[90]? = some (us 2) := slot_get ha 2 (by kernel_rfl) (by kernel_rfl)
                          rw [show us 2 = .pointer (some ⟨H0, k, none⟩) from d2] at q90
                          have hc : w3.cell? ⟨H0, k, none⟩ = some (.slice (some ⟨b, 0, none⟩) (n + 64) c2) := (Below.cell (hGw _ hW) (p := ⟨H0, k, none⟩) hqz).trans Hcg.out
                          refine step_value (v := .slice (some ⟨b, 0, none⟩) (n + 64) c2) (w2 := w3) ?_ (hK _ _ (Grow.refl _) rfl)
                          go_simp
                        · refine stageOf_free rfl (fun _ _ _ _ _ _ => wanted_none rfl) ?_
                          intro us vals w3 a' ha hle hW hd hv K hK
                          have q10 : a'.tmps[10]? = some (.int .i64 (i : Int)) := slot_old ha (by kernel_rfl) (by kernel_rfl)
                          exact step_value (w2 := w3) (by go_simp) (hK _ _ (Grow.refl _) rfl)
                        · refine stageOf_free rfl (fun _ _ _ _ _ _ => wanted_none rfl) ?_
                          intro us vals w3 a' ha hle hW hd hv K hK
                          obtain ⟨d3, d4, _⟩ := hd
                          have q91 : a'.tmps[91]? = some (us 3) := slot_get ha 3 (by kernel_rfl) (by kernel_rfl)
                          rw [show us 3 = .slice (some ⟨b, 0, none⟩) (n + 64) c2 from d3] at q91
                          have q92 : a'.tmps[92]? = some (us 4) := slot_get ha 4 (by kernel_rfl) (by kernel_rfl)
                          rw [show us 4 = .int .i64 (i : Int) from d4] at q92
                          refine step_value (v := .pointer (some ⟨b, i, none⟩)) (w2 := w3) ?_ (hK _ _ (Grow.refl _) rfl)
                          go_simp
                          (try (intro h; omega))
                        · refine stageOf_free rfl (fun _ _ _ _ _ _ => wanted_none rfl) ?_
                          intro us vals w3 a' ha hle hW hd hv K hK
                          obtain ⟨d5, _⟩ := hd
                          have q93 : a'.tmps[93]? = some (us 5) := slot_get ha 5 (by kernel_rfl) (by kernel_rfl)
                          rw [show us 5 = .pointer (some ⟨b, i, none⟩) from d5] at q93
                          have hc : w3.cell? ⟨b, i, none⟩ = some (.string (mkT k i)) := (Below.cell (hGw _ hW) (p := ⟨b, i, none⟩) hbz1).trans Hc1.out
                          refine step_value (v := .string (mkT k i)) (w2 := w3) ?_ (hK _ _ (Grow.refl _) rfl)
                          go_simp
                        · refine stageOf_free rfl (fun _ _ _ _ _ _ => wanted_none rfl) ?_
                          intro us vals w3 a' ha hle hW hd hv K hK
                          have q9 : a'.tmps[9]? = some (.int .i64 (k : Int)) := slot_old ha (by kernel_rfl) (by kernel_rfl)
                          exact step_value (w2 := w3) (by go_simp) (hK _ _ (Grow.refl _) rfl)
                        · refine stageOf_free rfl (fun _ _ _ _ _ _ => wanted_none rfl) ?_
                          intro us vals w3 a' ha hle hW hd hv K hK
                          have q10 : a'.tmps[10]? = some (.int .i64 (i : Int)) := slot_old ha (by kernel_rfl) (by kernel_rfl)
                          exact step_value (w2 := w3) (by go_simp) (hK _ _ (Grow.refl _) rfl)
                        · refine stageOf_free rfl (fun _ _ _ _ _ _ => wanted_none rfl) ?_
                          intro us vals w3 a' ha hle hW hd hv K hK
                          obtain ⟨d7, d8, _⟩ := hd
                          have q95 : a'.tmps[95]? = some (us 7) := slot_get ha 7 (by kernel_rfl) (by kernel_rfl)
                          rw [show us 7 = .int .i64 (k : Int) from d7] at q95
                          have q96 : a'.tmps[96]? = some (us 8) := slot_get ha 8 (by kernel_rfl) (by kernel_rfl)
                          rw [show us 8 = .int .i64 (i : Int) from d8] at q96
                          refine step_call (f := 59) (args := #[.int .i64 (k), .int .i64 (i : Int)]) (by go_simp) ?_
                          refine (markText_at k i _ _ w3 rfl rfl (by omega) (by omega)).mono ?_
                          rintro e w4 ⟨rfl, hg4⟩
                          exact ⟨_, rfl, hK _ _ hg4 rfl⟩
                        · refine stageOf_free rfl (fun _ _ _ _ _ _ => wanted_none rfl) ?_
                          intro us vals w3 a' ha hle hW hd hv K hK
                          obtain ⟨d6, d9, _⟩ := hd
                          have q94 : a'.tmps[94]? = some (us 6) := slot_get ha 6 (by kernel_rfl) (by kernel_rfl)
                          rw [show us 6 = .string (mkT k i) from d6] at q94
                          have q97 : a'.tmps[97]? = some (us 9) := slot_get ha 9 (by kernel_rfl) (by kernel_rfl)
                          rw [show us 9 = .string (mkT k i) from d9] at q97
                          refine step_value (v := .bool true) (w2 := w3) ?_ (hK _ _ (Grow.refl _) rfl)
                          go_simp
                        · refine stageOf_free rfl (fun _ _ _ _ _ _ => wanted_none rfl) ?_
                          intro us vals w3 a' ha hle hW hd hv K hK
                          obtain ⟨d10, _⟩ := hd
                          have q98 : a'.tmps[98]? = some (us 10) := slot_get ha 10 (by kernel_rfl) (by kernel_rfl)
                          rw [show us 10 = .bool true from d10] at q98
                          refine step_value (v := .bool false) (w2 := w3) ?_ (hK _ _ (Grow.refl _) rfl)
                          go_simp
                        · refine stageOf_free rfl (fun _ _ _ _ _ _ => wanted_none rfl) ?_
                          intro us vals w3 a' ha hle hW hd hv K hK
                          obtain ⟨d11, _, _⟩ := hd
                          have q99 : a'.tmps[99]? = some (us 11) := slot_get ha 11 (by kernel_rfl) (by kernel_rfl)
                          rw [show us 11 = .bool false from d11] at q99
                          exact step_value (w2 := w3) (by go_simp) (hK _ _ (Grow.refl _) rfl)
                        · refine stageOf_free rfl (fun us vals w3 a' ha hd => ?_) ?_
                          · obtain ⟨d12, _⟩ := hd
                            have q : a'.tmps[100]? = some (us 12) := slot_get ha 12 (by kernel_rfl) (by kernel_rfl)
                            rw [show us 12 = .bool false from d12] at q
                            exact wanted_some rfl rfl q
                          intro us vals w3 a' ha hle hW hd hv K hK
                          have q10 : a'.tmps[10]? = some (.int .i64 (i : Int)) := slot_old ha (by kernel_rfl) (by kernel_rfl)
                          exact step_value (w2 := w3) (by go_simp) (hK _ _ (Grow.refl _) rfl)
                        · refine stageOf_free rfl (fun us vals w3 a' ha hd => ?_) ?_
                          · obtain ⟨d12, _⟩ := hd
                            have q : a'.tmps[100]? = some (us 12) := slot_get ha 12 (by kernel_rfl) (by kernel_rfl)
                            rw [show us 12 = .bool false from d12] at q
                            exact wanted_some rfl rfl q
                          intro us vals w3 a' ha hle hW hd hv K hK
                          have q0 : a'.tmps[0]? = some (.slice (some ⟨r, 0, none⟩) m c) := slot_old ha (by kernel_rfl) (by kernel_rfl)
                          exact step_value (w2 := w3) (by go_simp) (hK _ _ (Grow.refl _) rfl)
                        · refine stageOf_free rfl (fun us vals w3 a' ha hd => ?_) ?_
                          · obtain ⟨d12, _⟩ := hd
                            have q : a'.tmps[100]? = some (us 12) := slot_get ha 12 (by kernel_rfl) (by kernel_rfl)
                            rw [show us 12 = .bool false from d12] at q
                            exact wanted_some rfl rfl q
                          intro us vals w3 a' ha hle hW hd hv K hK
                          have q9 : a'.tmps[9]? = some (.int .i64 (k : Int)) := slot_old ha (by kernel_rfl) (by kernel_rfl)
                          exact step_value (w2 := w3) (by go_simp) (hK _ _ (Grow.refl _) rfl)
                        · refine stageOf_free rfl (fun us vals w3 a' ha hd => ?_) ?_
                          · obtain ⟨_, _, d12, _⟩ := hd
                            have q : a'.tmps[100]? = some (us 12) := slot_get ha 12 (by kernel_rfl) (by kernel_rfl)
                            rw [show us 12 = .bool false from d12] at q
                            exact wanted_some rfl rfl q
                          intro us vals w3 a' ha hle hW hd hv K hK
                          obtain ⟨d14, d15, _, _⟩ := hd
                          have q102 : a'.tmps[102]? = some (us 14) := slot_get ha 14 (by kernel_rfl) (by kernel_rfl)
                          rw [show us 14 = .slice (some ⟨r, 0, none⟩) m c from d14] at q102
                          have q103 : a'.tmps[103]? = some (us 15) := slot_get ha 15 (by kernel_rfl) (by kernel_rfl)
                          rw [show us 15 = .int .i64 (k : Int) from d15] at q103
                          refine step_value (v := .pointer (some ⟨r, k, none⟩)) (w2 := w3) ?_ (hK _ _ (Grow.refl _) rfl)
                          go_simp
                          (try (intro h; omega))
                        · refine stageOf_free rfl (fun us vals w3 a' ha hd => ?_) ?_
                          · obtain ⟨_, d12, _⟩ := hd
                            have q : a'.tmps[100]? = some (us 12) := slot_get ha 12 (by kernel_rfl) (by kernel_rfl)
                            rw [show us 12 = .bool false from d12] at q
                            exact wanted_some rfl rfl q
                          intro us vals w3 a' ha hle hW hd hv K hK
                          obtain ⟨d16, _, _⟩ := hd
                          have q104 : a'.tmps[104]? = some (us 16) := slot_get ha 16 (by kernel_rfl) (by kernel_rfl)
                          rw [show us 16 = .pointer (some ⟨r, k, none⟩) from d16] at q104
                          have hc : w3.cell? ⟨r, k, none⟩ = some (.slice (some ⟨bv, 0, none⟩) n c1) := (Below.cell (hGw _ hW) (p := ⟨r, k, none⟩) hrz).trans Hcv.out
                          refine step_value (v := .slice (some ⟨bv, 0, none⟩) n c1) (w2 := w3) ?_ (hK _ _ (Grow.refl _) rfl)
                          go_simp
                        · refine stageOf_free rfl (fun us vals w3 a' ha hd => ?_) ?_
                          · obtain ⟨_, d12, _⟩ := hd
                            have q : a'.tmps[100]? = some (us 12) := slot_get ha 12 (by kernel_rfl) (by kernel_rfl)
                            rw [show us 12 = .bool false from d12] at q
                            exact wanted_some rfl rfl q
                          intro us vals w3 a' ha hle hW hd hv K hK
                          obtain ⟨d17, _, _⟩ := hd
                          have q105 : a'.tmps[105]? = some (us 17) := slot_get ha 17 (by kernel_rfl) (by kernel_rfl)
                          rw [show us 17 = .slice (some ⟨bv, 0, none⟩) n c1 from d17] at q105
                          refine step_value (v := .int .i64 (n : Int)) (w2 := w3) ?_ (hK _ _ (Grow.refl _) rfl)
                          go_simp
                        · refine stageOf_free rfl (fun us vals w3 a' ha hd => ?_) ?_
                          · obtain ⟨_, _, d12, _⟩ := hd
                            have q : a'.tmps[100]? = some (us 12) := slot_get ha 12 (by kernel_rfl) (by kernel_rfl)
                            rw [show us 12 = .bool false from d12] at q
                            exact wanted_some rfl rfl q
                          intro us vals w3 a' ha hle hW hd hv K hK
                          obtain ⟨d13, d18, _, _⟩ := hd
                          have q101 : a'.tmps[101]? = some (us 13) := slot_get ha 13 (by kernel_rfl) (by kernel_rfl)
                          rw [show us 13 = .int .i64 (i : Int) from d13] at q101
                          have q106 : a'.tmps[106]? = some (us 18) := slot_get ha 18 (by kernel_rfl) (by kernel_rfl)
                          rw [show us 18 = .int .i64 (n : Int) from d18] at q106
                          refine step_value (v := .bool true) (w2 := w3) ?_ (hK _ _ (Grow.refl _) rfl)
                          go_simp
                        · refine stageOf_free rfl (fun us vals w3 a' ha hd => ?_) ?_
                          · obtain ⟨_, d12, _, _⟩ := hd
                            have q : a'.tmps[100]? = some (us 12) := slot_get ha 12 (by kernel_rfl) (by kernel_rfl)
                            rw [show us 12 = .bool false from d12] at q
                            exact wanted_some rfl rfl q
                          intro us vals w3 a' ha hle hW hd hv K hK
                          obtain ⟨d19, _, _, _⟩ := hd
                          have q107 : a'.tmps[107]? = some (us 19) := slot_get ha 19 (by kernel_rfl) (by kernel_rfl)
                          rw [show us 19 = .bool true from d19] at q107
                          exact step_value (w2 := w3) (by go_simp) (hK _ _ (Grow.refl _) rfl)
                        · refine stageOf_free rfl (fun us vals w3 a' ha hd => ?_) ?_
                          · obtain ⟨d20, _⟩ := hd
                            have q : a'.tmps[108]? = some (us 20) := slot_get ha 20 (by kernel_rfl) (by kernel_rfl)
                            rw [show us 20 = .bool true from d20] at q
                            exact wanted_some rfl rfl q
                          intro us vals w3 a' ha hle hW hd hv K hK
                          have q0 : a'.tmps[0]? = some (.slice (some ⟨r, 0, none⟩) m c) := slot_old ha (by kernel_rfl) (by kernel_rfl)
                          exact step_value (w2 := w3) (by go_simp) (hK _ _ (Grow.refl _) rfl)
                        · refine stageOf_free rfl (fun us vals w3 a' ha hd => ?_) ?_
                          · obtain ⟨d20, _⟩ := hd
                            have q : a'.tmps[108]? = some (us 20) := slot_get ha 20 (by kernel_rfl) (by kernel_rfl)
                            rw [show us 20 = .bool true from d20] at q
                            exact wanted_some rfl rfl q
                          intro us vals w3 a' ha hle hW hd hv K hK
                          have q9 : a'.tmps[9]? = some (.int .i64 (k : Int)) := slot_old ha (by kernel_rfl) (by kernel_rfl)
                          exact step_value (w2 := w3) (by go_simp) (hK _ _ (Grow.refl _) rfl)
                        · refine stageOf_free rfl (fun us vals w3 a' ha hd => ?_) ?_
                          · obtain ⟨_, _, d20, _⟩ := hd
                            have q : a'.tmps[108]? = some (us 20) := slot_get ha 20 (by kernel_rfl) (by kernel_rfl)
                            rw [show us 20 = .bool true from d20] at q
                            exact wanted_some rfl rfl q
                          intro us vals w3 a' ha hle hW hd hv K hK
                          obtain ⟨d21, d22, _, _⟩ := hd
                          have q109 : a'.tmps[109]? = some (us 21) := slot_get ha 21 (by kernel_rfl) (by kernel_rfl)
                          rw [show us 21 = .slice (some ⟨r, 0, none⟩) m c from d21] at q109
                          have q110 : a'.tmps[110]? = some (us 22) := slot_get ha 22 (by kernel_rfl) (by kernel_rfl)
                          rw [show us 22 = .int .i64 (k : Int) from d22] at q110
                          refine step_value (v := .pointer (some ⟨r, k, none⟩)) (w2 := w3) ?_ (hK _ _ (Grow.refl _) rfl)
                          go_simp
                          (try (intro h; omega))
                        · refine stageOf_free rfl (fun us vals w3 a' ha hd => ?_) ?_
                          · obtain ⟨_, d20, _⟩ := hd
                            have q : a'.tmps[108]? = some (us 20) := slot_get ha 20 (by kernel_rfl) (by kernel_rfl)
                            rw [show us 20 = .bool true from d20] at q
                            exact wanted_some rfl rfl q
                          intro us vals w3 a' ha hle hW hd hv K hK
                          obtain ⟨d23, _, _⟩ := hd
                          have q111 : a'.tmps[111]? = some (us 23) := slot_get ha 23 (by kernel_rfl) (by kernel_rfl)
                          rw [show us 23 = .pointer (some ⟨r, k, none⟩) from d23] at q111
                          have hc : w3.cell? ⟨r, k, none⟩ = some (.slice (some ⟨bv, 0, none⟩) n c1) := (Below.cell (hGw _ hW) (p := ⟨r, k, none⟩) hrz).trans Hcv.out
                          refine step_value (v := .slice (some ⟨bv, 0, none⟩) n c1) (w2 := w3) ?_ (hK _ _ (Grow.refl _) rfl)
                          go_simp
                        · refine stageOf_free rfl (fun us vals w3 a' ha hd => ?_) ?_
                          · obtain ⟨d20, _⟩ := hd
                            have q : a'.tmps[108]? = some (us 20) := slot_get ha 20 (by kernel_rfl) (by kernel_rfl)
                            rw [show us 20 = .bool true from d20] at q
                            exact wanted_some rfl rfl q
                          intro us vals w3 a' ha hle hW hd hv K hK
                          have q10 : a'.tmps[10]? = some (.int .i64 (i : Int)) := slot_old ha (by kernel_rfl) (by kernel_rfl)
                          exact step_value (w2 := w3) (by go_simp) (hK _ _ (Grow.refl _) rfl)
                        · refine stageOf_free rfl (fun us vals w3 a' ha hd => ?_) ?_
                          · obtain ⟨_, _, d20, _⟩ := hd
                            have q : a'.tmps[108]? = some (us 20) := slot_get ha 20 (by kernel_rfl) (by kernel_rfl)
                            rw [show us 20 = .bool true from d20] at q
                            exact wanted_some rfl rfl q
                          intro us vals w3 a' ha hle hW hd hv K hK
                          obtain ⟨d24, d25, _, _⟩ := hd
                          have q112 : a'.tmps[112]? = some (us 24) := slot_get ha 24 (by kernel_rfl) (by kernel_rfl)
                          rw [show us 24 = .slice (some ⟨bv, 0, none⟩) n c1 from d24] at q112
                          have q113 : a'.tmps[113]? = some (us 25) := slot_get ha 25 (by kernel_rfl) (by kernel_rfl)
                          rw [show us 25 = .int .i64 (i : Int) from d25] at q113
                          refine step_value (v := .pointer (some ⟨bv, i, none⟩)) (w2 := w3) ?_ (hK _ _ (Grow.refl _) rfl)
                          go_simp
                          (try (intro h; omega))
                        · refine stageOf_free rfl (fun us vals w3 a' ha hd => ?_) ?_
                          · obtain ⟨_, d20, _⟩ := hd
                            have q : a'.tmps[108]? = some (us 20) := slot_get ha 20 (by kernel_rfl) (by kernel_rfl)
                            rw [show us 20 = .bool true from d20] at q
                            exact wanted_some rfl rfl q
                          intro us vals w3 a' ha hle hW hd hv K hK
                          obtain ⟨d26, _, _⟩ := hd
                          have q114 : a'.tmps[114]? = some (us 26) := slot_get ha 26 (by kernel_rfl) (by kernel_rfl)
                          rw [show us 26 = .pointer (some ⟨bv, i, none⟩) from d26] at q114
                          have hc : w3.cell? ⟨bv, i, none⟩ = some (.string (mkT k i)) := (Below.cell (hGw _ hW) (p := ⟨bv, i, none⟩) hbz2).trans Hc2.out
                          refine step_value (v := .string (mkT k i)) (w2 := w3) ?_ (hK _ _ (Grow.refl _) rfl)
                          go_simp
                        · refine stageOf_free rfl (fun us vals w3 a' ha hd => ?_) ?_
                          · obtain ⟨d20, _⟩ := hd
                            have q : a'.tmps[108]? = some (us 20) := slot_get ha 20 (by kernel_rfl) (by kernel_rfl)
                            rw [show us 20 = .bool true from d20] at q
                            exact wanted_some rfl rfl q
                          intro us vals w3 a' ha hle hW hd hv K hK
                          have q9 : a'.tmps[9]? = some (.int .i64 (k : Int)) := slot_old ha (by kernel_rfl) (by kernel_rfl)
                          exact step_value (w2 := w3) (by go_simp) (hK _ _ (Grow.refl _) rfl)
                        · refine stageOf_free rfl (fun us vals w3 a' ha hd => ?_) ?_
                          · obtain ⟨d20, _⟩ := hd
                            have q : a'.tmps[108]? = some (us 20) := slot_get ha 20 (by kernel_rfl) (by kernel_rfl)
                            rw [show us 20 = .bool true from d20] at q
                            exact wanted_some rfl rfl q
                          intro us vals w3 a' ha hle hW hd hv K hK
                          have q10 : a'.tmps[10]? = some (.int .i64 (i : Int)) := slot_old ha (by kernel_rfl) (by kernel_rfl)
                          exact step_value (w2 := w3) (by go_simp) (hK _ _ (Grow.refl _) rfl)
                        · refine stageOf_free rfl (fun us vals w3 a' ha hd => ?_) ?_
                          · obtain ⟨_, _, d20, _, _⟩ := hd
                            have q : a'.tmps[108]? = some (us 20) := slot_get ha 20 (by kernel_rfl) (by kernel_rfl)
                            rw [show us 20 = .bool true from d20] at q
                            exact wanted_some rfl rfl q
                          intro us vals w3 a' ha hle hW hd hv K hK
                          obtain ⟨d28, d29, _, _, _⟩ := hd
                          have q116 : a'.tmps[116]? = some (us 28) := slot_get ha 28 (by kernel_rfl) (by kernel_rfl)
                          rw [show us 28 = .int .i64 (k : Int) from d28] at q116
                          have q117 : a'.tmps[117]? = some (us 29) := slot_get ha 29 (by kernel_rfl) (by kernel_rfl)
                          rw [show us 29 = .int .i64 (i : Int) from d29] at q117
                          refine step_call (f := 59) (args := #[.int .i64 (k), .int .i64 (i : Int)]) (by go_simp) ?_
                          refine (markText_at k i _ _ w3 rfl rfl (by omega) (by omega)).mono ?_
                          rintro e w4 ⟨rfl, hg4⟩
                          exact ⟨_, rfl, hK _ _ hg4 rfl⟩
                        · refine stageOf_free rfl (fun us vals w3 a' ha hd => ?_) ?_
                          · obtain ⟨_, _, d20, _⟩ := hd
                            have q : a'.tmps[108]? = some (us 20) := slot_get ha 20 (by kernel_rfl) (by kernel_rfl)
                            rw [show us 20 = .bool true from d20] at q
                            exact wanted_some rfl rfl q
                          intro us vals w3 a' ha hle hW hd hv K hK
                          obtain ⟨d27, d30, _, _⟩ := hd
                          have q115 : a'.tmps[115]? = some (us 27) := slot_get ha 27 (by kernel_rfl) (by kernel_rfl)
                          rw [show us 27 = .string (mkT k i) from d27] at q115
                          have q118 : a'.tmps[118]? = some (us 30) := slot_get ha 30 (by kernel_rfl) (by kernel_rfl)
                          rw [show us 30 = .string (mkT k i) from d30] at q118
                          refine step_value (v := .bool true) (w2 := w3) ?_ (hK _ _ (Grow.refl _) rfl)
                          go_simp
                        · refine stageOf_free rfl (fun us vals w3 a' ha hd => ?_) ?_
                          · obtain ⟨_, d20, _⟩ := hd
                            have q : a'.tmps[108]? = some (us 20) := slot_get ha 20 (by kernel_rfl) (by kernel_rfl)
                            rw [show us 20 = .bool true from d20] at q
                            exact wanted_some rfl rfl q
                          intro us vals w3 a' ha hle hW hd hv K hK
                          obtain ⟨d31, _, _⟩ := hd
                          have q119 : a'.tmps[119]? = some (us 31) := slot_get ha 31 (by kernel_rfl) (by kernel_rfl)
                          rw [show us 31 = .bool true from d31] at q119
                          refine step_value (v := .bool false) (w2 := w3) ?_ (hK _ _ (Grow.refl _) rfl)
                          go_simp
                        · refine stageOf_free rfl (fun us vals w3 a' ha hd => ?_) ?_
                          · obtain ⟨_, _, d12, _⟩ := hd
                            have q : a'.tmps[100]? = some (us 12) := slot_get ha 12 (by kernel_rfl) (by kernel_rfl)
                            rw [show us 12 = .bool false from d12] at q
                            exact wanted_some rfl rfl q
                          intro us vals w3 a' ha hle hW hd hv K hK
                          obtain ⟨d20, d32, _, _⟩ := hd
                          have q108 : a'.tmps[108]? = some (us 20) := slot_get ha 20 (by kernel_rfl) (by kernel_rfl)
                          rw [show us 20 = .bool true from d20] at q108
                          have q120 : a'.tmps[120]? = some (us 32) := slot_get ha 32 (by kernel_rfl) (by kernel_rfl)
                          rw [show us 32 = .bool false from d32] at q120
                          refine step_value (v := .bool false) (w2 := w3) ?_ (hK _ _ (Grow.refl _) rfl)
                          go_simp
                        · refine stageOf_free rfl (fun _ _ _ _ _ _ => wanted_none rfl) ?_
                          intro us vals w3 a' ha hle hW hd hv K hK
                          obtain ⟨d12, d33, _⟩ := hd
                          have q100 : a'.tmps[100]? = some (us 12) := slot_get ha 12 (by kernel_rfl) (by kernel_rfl)
                          rw [show us 12 = .bool false from d12] at q100
                          have q121 : a'.tmps[121]? = some (us 33) := slot_get ha 33 (by kernel_rfl) (by kernel_rfl)
                          rw [show us 33 = .bool false from d33] at q121
                          refine step_value (v := .bool false) (w2 := w3) ?_ (hK _ _ (Grow.refl _) rfl)
                          go_simp
                      · intro us vals w3 hle hvl hV _ hf
                        exact hMx _ _ (Met.intro (hJx _ _ ⟨us 0, us 1, us 2, us 3, us 4, us 5, us 6, us 7, us 8, us 9, us 10, us 11, us 12, us 13, us 14, us 15, us 16, us 17, us 18, us 19, us 20, us 21, us 22, us 23, us 24, us 25, us 26, us 27, us 28, us 29, us 30, us 31, us 32, us 33, us 34, ⟨hf 34 (by decide) rfl, hV⟩, by kernel_rfl⟩))
                    case rest =>
                      obtain ⟨rfl, hg9⟩ := hcut
                      have Hg9 := Lib.hid (Hgi.out.trans hg9)
                      clear hg9 Hgi
                      go_wp2
                      go_roundw
                      case rel => exact ⟨i + 1, by omega, by go_num, Hg9.out⟩
                      case measure => simp [intOf]; omega
                  · have hg1 : decide (i < n) = false := by simpa using hin
                    have hg2 : decide ((i : Int) < (n : Int)) = false := by simpa using hin
                    go_upto_region 24 with (fail)
                    go_cut [122] from 88 to 122 (fun vx wx => vx = .bool false ∧ Grow wr wx)
                    case first Jx Kx hJx hMx =>
                      refine wp_region_stages (by kernel_rfl) ?_
                      refine anyOrder_start [] (KeepNot 9 30) ((fun _ w => Grow wr w)) (FactsOn [.is (.slice (some ⟨H0, 0, none⟩) m m), .is (.int .i64 (k : Int)), .is (.pointer (some ⟨H0, k, none⟩)), .is (.slice (some ⟨b, 0, none⟩) (n + 64) c2), .is (.int .i64 (i : Int)), .is (.pointer (some ⟨b, i, none⟩)), .is (.string (mkT k i)), .is (.int .i64 (k : Int)), .is (.int .i64 (i : Int)), .is (.string (mkT k i)), .is (.bool true), .is (.bool false), .is (.bool false), .is (.int .i64 (i : Int)), .is (.slice (some ⟨r, 0, none⟩) m c), .is (.int .i64 (k : Int)), .is (.pointer (some ⟨r, k, none⟩)), .is (.slice A1 n c1), .is (.int .i64 (n : Int)), .is (.bool false), .is (.bool false), .is (undef), .is (undef), .is (undef), .is (undef), .is (undef), .is (undef), .is (undef), .is (undef), .is (undef), .is (undef), .is (undef), .is (undef), .is (.bool false), .is (.bool false)]) (fun i => 99) keepNot_trans keepNot_grow (fun _ _ _ hg h => Grow.trans h hg) (factsOn_mono _) (by kernel_rfl) (by kernel_rfl) (Grow.refl _) ?_ ?_
                      · refine ⟨?_, ?_, ?_, ?_, ?_, ?_, ?_, ?_, ?_, ?_, ?_, ?_, ?_, ?_, ?_, ?_, ?_, ?_, ?_, ?_, ?_, ?_, ?_, ?_, ?_, ?_, ?_, ?_, ?_, ?_, ?_, ?_, ?_, ?_, ?_, trivial⟩
                        · refine stageOf_free rfl (fun _ _ _ _ _ _ => wanted_none rfl) ?_
                          intro us vals w3 a' ha hle hW hd hv K hK
                          have q5 : a'.tmps[5]? = some (.slice (some ⟨H0, 0, none⟩) m m) := slot_old ha (by kernel_rfl) (by kernel_rfl)
                          exact step_value (w2 := w3) (by go_simp) (hK _ _ (Grow.refl _) rfl)
                        · refine stageOf_free rfl (fun _ _ _ _ _ _ => wanted_none rfl) ?_
                          intro us vals w3 a' ha hle hW hd hv K hK
                          have q9 : a'.tmps[9]? = some (.int .i64 (k : Int)) := slot_old ha (by kernel_rfl) (by kernel_rfl)
                          exact step_value (w2 := w3) (by go_simp) (hK _ _ (Grow.refl _) rfl)
                        · refine stageOf_free rfl (fun _ _ _ _ _ _ => wanted_none rfl) ?_
                          intro us vals w3 a' ha hle hW hd hv K hK
                          obtain ⟨d0, d1, _⟩ := hd
                          have q88 : a'.tmps[88]? = some (us 0) := slot_get ha 0 (by kernel_rfl) (by kernel_rfl)
                          rw [show us 0 = .slice (some ⟨H0, 0, none⟩) m m from d0] at q88
                          have q89 : a'.tmps[89]? = some (us 1) := slot_get ha 1 (by kernel_rfl) (by kernel_rfl)
                          rw [show us 1 = .int .i64 (k : Int) from d1] at q89
                          refine step_value (v := .pointer (some ⟨H0, k, none⟩)) (w2 := w3) ?_ (hK _ _ (Grow.refl _) rfl)
                          go_simp
                          (try (intro h; omega))
                        · refine stageOf_free rfl (fun _ _ _ _ _ _ => wanted_none rfl) ?_
                          intro us vals w3 a' ha hle hW hd hv K hK
                          obtain ⟨d2, _⟩ := hd
                          have q90 : a'.tmps[90]? = some (us 2) := slot_get ha 2 (by kernel_rfl) (by kernel_rfl)
                          rw [show us 2 = .pointer (some ⟨H0, k, none⟩) from d2] at q90
                          have hc : w3.cell? ⟨H0, k, none⟩ = some (.slice (some ⟨b, 0, none⟩) (n + 64) c2) := (Below.cell (hGw _ hW) (p := ⟨H0, k, none⟩) hqz).trans Hcg.out
                          refine step_value (v := .slice (some ⟨b, 0, none⟩) (n + 64) c2) (w2 := w3) ?_ (hK _ _ (Grow.refl _) rfl)
                          go_simp
                        · refine stageOf_free rfl (fun _ _ _ _ _ _ => wanted_none rfl) ?_
                          intro us vals w3 a' ha hle hW hd hv K hK
                          have q10 : a'.tmps[10]? = some (.int .i64 (i : Int)) := slot_old ha (by kernel_rfl) (by kernel_rfl)
                          exact step_value (w2 := w3) (by go_simp) (hK _ _ (Grow.refl _) rfl)
                        · refine stageOf_free rfl (fun _ _ _ _ _ _ => wanted_none rfl) ?_
                          intro us vals w3 a' ha hle hW hd hv K hK
                          obtain ⟨d3, d4, _⟩ := hd
                          have q91 : a'.tmps[91]? = some (us 3) := slot_get ha 3 (by kernel_rfl) (by kernel_rfl)
                          rw [show us 3 = .slice (some ⟨b, 0, none⟩) (n + 64) c2 from d3] at q91
                          have q92 : a'.tmps[92]? = some (us 4) := slot_get ha 4 (by kernel_rfl) (by kernel_rfl)
                          rw [show us 4 = .int .i64 (i : Int) from d4] at q92
                          refine step_value (v := .pointer (some ⟨b, i, none⟩)) (w2 := w3) ?_ (hK _ _ (Grow.refl _) rfl)
                          go_simp
                          (try (intro h; omega))
                        · refine stageOf_free rfl (fun _ _ _ _ _ _ => wanted_none rfl) ?_
                          intro us vals w3 a' ha hle hW hd hv K hK
                          obtain ⟨d5, _⟩ := hd
                          have q93 : a'.tmps[93]? = some (us 5) := slot_get ha 5 (by kernel_rfl) (by kernel_rfl)
                          rw [show us 5 = .pointer (some ⟨b, i, none⟩) from d5] at q93
                          have hc : w3.cell? ⟨b, i, none⟩ = some (.string (mkT k i)) := (Below.cell (hGw _ hW) (p := ⟨b, i, none⟩) hbz1).trans Hc1.out
                          refine step_value (v := .string (mkT k i)) (w2 := w3) ?_ (hK _ _ (Grow.refl _) rfl)
                          go_simp
                        · refine stageOf_free rfl (fun _ _ _ _ _ _ => wanted_none rfl) ?_
                          intro us vals w3 a' ha hle hW hd hv K hK
                          have q9 : a'.tmps[9]? = some (.int .i64 (k : Int)) := slot_old ha (by kernel_rfl) (by kernel_rfl)
                          exact step_value (w2 := w3) (by go_simp) (hK _ _ (Grow.refl _) rfl)
                        · refine stageOf_free rfl (fun _ _ _ _ _ _ => wanted_none rfl) ?_
                          intro us vals w3 a' ha hle hW hd hv K hK
                          have q10 : a'.tmps[10]? = some (.int .i64 (i : Int)) := slot_old ha (by kernel_rfl) (by kernel_rfl)
                          exact step_value (w2 := w3) (by go_simp) (hK _ _ (Grow.refl _) rfl)
                        · refine stageOf_free rfl (fun _ _ _ _ _ _ => wanted_none rfl) ?_
                          intro us vals w3 a' ha hle hW hd hv K hK
                          obtain ⟨d7, d8, _⟩ := hd
                          have q95 : a'.tmps[95]? = some (us 7) := slot_get ha 7 (by kernel_rfl) (by kernel_rfl)
                          rw [show us 7 = .int .i64 (k : Int) from d7] at q95
                          have q96 : a'.tmps[96]? = some (us 8) := slot_get ha 8 (by kernel_rfl) (by kernel_rfl)
                          rw [show us 8 = .int .i64 (i : Int) from d8] at q96
                          refine step_call (f := 59) (args := #[.int .i64 (k), .int .i64 (i : Int)]) (by go_simp) ?_
                          refine (markText_at k i _ _ w3 rfl rfl (by omega) (by omega)).mono ?_
                          rintro e w4 ⟨rfl, hg4⟩
                          exact ⟨_, rfl, hK _ _ hg4 rfl⟩
                        · refine stageOf_free rfl (fun _ _ _ _ _ _ => wanted_none rfl) ?_
                          intro us vals w3 a' ha hle hW hd hv K hK
                          obtain ⟨d6, d9, _⟩ := hd
                          have q94 : a'.tmps[94]? = some (us 6) := slot_get ha 6 (by kernel_rfl) (by kernel_rfl)
                          rw [show us 6 = .string (mkT k i) from d6] at q94
                          have q97 : a'.tmps[97]? = some (us 9) := slot_get ha 9 (by kernel_rfl) (by kernel_rfl)
                          rw [show us 9 = .string (mkT k i) from d9] at q97
                          refine step_value (v := .bool true) (w2 := w3) ?_ (hK _ _ (Grow.refl _) rfl)
                          go_simp
                        · refine stageOf_free rfl (fun _ _ _ _ _ _ => wanted_none rfl) ?_
                          intro us vals w3 a' ha hle hW hd hv K hK
                          obtain ⟨d10, _⟩ := hd
                          have q98 : a'.tmps[98]? = some (us 10) := slot_get ha 10 (by kernel_rfl) (by kernel_rfl)
                          rw [show us 10 = .bool true from d10] at q98
                          refine step_value (v := .bool false) (w2 := w3) ?_ (hK _ _ (Grow.refl _) rfl)
                          go_simp
                        · refine stageOf_free rfl (fun _ _ _ _ _ _ => wanted_none rfl) ?_
                          intro us vals w3 a' ha hle hW hd hv K hK
                          obtain ⟨d11, _, _⟩ := hd
                          have q99 : a'.tmps[99]? = some (us 11) := slot_get ha 11 (by kernel_rfl) (by kernel_rfl)
                          rw [show us 11 = .bool false from d11] at q99
                          exact step_value (w2 := w3) (by go_simp) (hK _ _ (Grow.refl _) rfl)
                        · refine stageOf_free rfl (fun us vals w3 a' ha hd => ?_) ?_
                          · obtain ⟨d12, _⟩ := hd
                            have q : a'.tmps[100]? = some (us 12) := slot_get ha 12 (by kernel_rfl) (by kernel_rfl)
                            rw [show us 12 = .bool false from d12] at q
                            exact wanted_some rfl rfl q
                          intro us vals w3 a' ha hle hW hd hv K hK
                          have q10 : a'.tmps[10]? = some (.int .i64 (i : Int)) := slot_old ha (by kernel_rfl) (by kernel_rfl)
                          exact step_value (w2 := w3) (by go_simp) (hK _ _ (Grow.refl _) rfl)
                        · refine stageOf_free rfl (fun us vals w3 a' ha hd => ?_) ?_
                          · obtain ⟨d12, _⟩ := hd
                            have q : a'.tmps[100]? = some (us 12) := slot_get ha 12 (by kernel_rfl) (by kernel_rfl)
                            rw [show us 12 = .bool false from d12] at q
                            exact wanted_some rfl rfl q
                          intro us vals w3 a' ha hle hW hd hv K hK
                          have q0 : a'.tmps[0]? = some (.slice (some ⟨r, 0, none⟩) m c) := slot_old ha (by kernel_rfl) (by kernel_rfl)
                          exact step_value (w2 := w3) (by go_simp) (hK _ _ (Grow.refl _) rfl)
                        · refine stageOf_free rfl (fun us vals w3 a' ha hd => ?_) ?_
                          · obtain ⟨d12, _⟩ := hd
                            have q : a'.tmps[100]? = some (us 12) := slot_get ha 12 (by kernel_rfl) (by kernel_rfl)
                            rw [show us 12 = .bool false from d12] at q
                            exact wanted_some rfl rfl q
                          intro us vals w3 a' ha hle hW hd hv K hK
                          have q9 : a'.tmps[9]? = some (.int .i64 (k : Int)) := slot_old ha (by kernel_rfl) (by kernel_rfl)
                          exact step_value (w2 := w3) (by go_simp) (hK _ _ (Grow.refl _) rfl)
                        · refine stageOf_free rfl (fun us vals w3 a' ha hd => ?_) ?_
                          · obtain ⟨_, _, d12, _⟩ := hd
                            have q : a'.tmps[100]? = some (us 12) := slot_get ha 12 (by kernel_rfl) (by kernel_rfl)
                            rw [show us 12 = .bool false from d12] at q
                            exact wanted_some rfl rfl q
                          intro us vals w3 a' ha hle hW hd hv K hK
                          obtain ⟨d14, d15, _, _⟩ := hd
                          have q102 : a'.tmps[102]? = some (us 14) := slot_get ha 14 (by kernel_rfl) (by kernel_rfl)
                          rw [show us 14 = .slice (some ⟨r, 0, none⟩) m c from d14] at q102
                          have q103 : a'.tmps[103]? = some (us 15) := slot_get ha 15 (by kernel_rfl) (by kernel_rfl)
                          rw [show us 15 = .int .i64 (k : Int) from d15] at q103
                          refine step_value (v := .pointer (some ⟨r, k, none⟩)) (w2 := w3) ?_ (hK _ _ (Grow.refl _) rfl)
                          go_simp
                          (try (intro h; omega))
                        · refine stageOf_free rfl (fun us vals w3 a' ha hd => ?_) ?_
                          · obtain ⟨_, d12, _⟩ := hd
                            have q : a'.tmps[100]? = some (us 12) := slot_get ha 12 (by kernel_rfl) (by kernel_rfl)
                            rw [show us 12 = .bool false from d12] at q
                            exact wanted_some rfl rfl q
                          intro us vals w3 a' ha hle hW hd hv K hK
                          obtain ⟨d16, _, _⟩ := hd
                          have q104 : a'.tmps[104]? = some (us 16) := slot_get ha 16 (by kernel_rfl) (by kernel_rfl)
                          rw [show us 16 = .pointer (some ⟨r, k, none⟩) from d16] at q104
                          have hc : w3.cell? ⟨r, k, none⟩ = some (.slice A1 n c1) := (Below.cell (hGw _ hW) (p := ⟨r, k, none⟩) hrz).trans Hcv.out
                          refine step_value (v := .slice A1 n c1) (w2 := w3) ?_ (hK _ _ (Grow.refl _) rfl)
                          go_simp
                        · refine stageOf_free rfl (fun us vals w3 a' ha hd => ?_) ?_
                          · obtain ⟨_, d12, _⟩ := hd
                            have q : a'.tmps[100]? = some (us 12) := slot_get ha 12 (by kernel_rfl) (by kernel_rfl)
                            rw [show us 12 = .bool false from d12] at q
                            exact wanted_some rfl rfl q
                          intro us vals w3 a' ha hle hW hd hv K hK
                          obtain ⟨d17, _, _⟩ := hd
                          have q105 : a'.tmps[105]? = some (us 17) := slot_get ha 17 (by kernel_rfl) (by kernel_rfl)
                          rw [show us 17 = .slice A1 n c1 from d17] at q105
                          refine step_value (v := .int .i64 (n : Int)) (w2 := w3) ?_ (hK _ _ (Grow.refl _) rfl)
                          go_simp
                        · refine stageOf_free rfl (fun us vals w3 a' ha hd => ?_) ?_
                          · obtain ⟨_, _, d12, _⟩ := hd
                            have q : a'.tmps[100]? = some (us 12) := slot_get ha 12 (by kernel_rfl) (by kernel_rfl)
                            rw [show us 12 = .bool false from d12] at q
                            exact wanted_some rfl rfl q
                          intro us vals w3 a' ha hle hW hd hv K hK
                          obtain ⟨d13, d18, _, _⟩ := hd
                          have q101 : a'.tmps[101]? = some (us 13) := slot_get ha 13 (by kernel_rfl) (by kernel_rfl)
                          rw [show us 13 = .int .i64 (i : Int) from d13] at q101
                          have q106 : a'.tmps[106]? = some (us 18) := slot_get ha 18 (by kernel_rfl) (by kernel_rfl)
                          rw [show us 18 = .int .i64 (n : Int) from d18] at q106
                          refine step_value (v := .bool false) (w2 := w3) ?_ (hK _ _ (Grow.refl _) rfl)
                          go_simp
                        · refine stageOf_free rfl (fun us vals w3 a' ha hd => ?_) ?_
                          · obtain ⟨_, d12, _, _⟩ := hd
                            have q : a'.tmps[100]? = some (us 12) := slot_get ha 12 (by kernel_rfl) (by kernel_rfl)
                            rw [show us 12 = .bool false from d12] at q
                            exact wanted_some rfl rfl q
                          intro us vals w3 a' ha hle hW hd hv K hK
                          obtain ⟨d19, _, _, _⟩ := hd
                          have q107 : a'.tmps[107]? = some (us 19) := slot_get ha 19 (by kernel_rfl) (by kernel_rfl)
                          rw [show us 19 = .bool false from d19] at q107
                          exact step_value (w2 := w3) (by go_simp) (hK _ _ (Grow.refl _) rfl)
                        · refine stageOf_skip rfl (fun us vals w3 a' ha hd => ?_) (fun _ => rfl)
                          obtain ⟨d20, _⟩ := hd
                          have q : a'.tmps[108]? = some (us 20) := slot_get ha 20 (by kernel_rfl) (by kernel_rfl)
                          rw [show us 20 = .bool false from d20] at q
                          exact wanted_other rfl rfl q
                        · refine stageOf_skip rfl (fun us vals w3 a' ha hd => ?_) (fun _ => rfl)
                          obtain ⟨d20, _⟩ := hd
                          have q : a'.tmps[108]? = some (us 20) := slot_get ha 20 (by kernel_rfl) (by kernel_rfl)
                          rw [show us 20 = .bool false from d20] at q
                          exact wanted_other rfl rfl q
                        · refine stageOf_skip rfl (fun us vals w3 a' ha hd => ?_) (fun _ => rfl)
                          obtain ⟨_, _, d20, _⟩ := hd
                          have q : a'.tmps[108]? = some (us 20) := slot_get ha 20 (by kernel_rfl) (by kernel_rfl)
                          rw [show us 20 = .bool false from d20] at q
                          exact wanted_other rfl rfl q
                        · refine stageOf_skip rfl (fun us vals w3 a' ha hd => ?_) (fun _ => rfl)
                          obtain ⟨_, d20, _⟩ := hd
                          have q : a'.tmps[108]? = some (us 20) := slot_get ha 20 (by kernel_rfl) (by kernel_rfl)
                          rw [show us 20 = .bool false from d20] at q
                          exact wanted_other rfl rfl q
                        · refine stageOf_skip rfl (fun us vals w3 a' ha hd => ?_) (fun _ => rfl)
                          obtain ⟨d20, _⟩ := hd
                          have q : a'.tmps[108]? = some (us 20) := slot_get ha 20 (by kernel_rfl) (by kernel_rfl)
                          rw [show us 20 = .bool false from d20] at q
                          exact wanted_other rfl rfl q
                        · refine stageOf_skip rfl (fun us vals w3 a' ha hd => ?_) (fun _ => rfl)
                          obtain ⟨_, _, d20, _⟩ := hd
                          have q : a'.tmps[108]? = some (us 20) := slot_get ha 20 (by kernel_rfl) (by kernel_rfl)
                          rw [show us 20 = .bool false from d20] at q
                          exact wanted_other rfl rfl q
                        · refine stageOf_skip rfl (fun us vals w3 a' ha hd => ?_) (fun _ => rfl)
                          obtain ⟨_, d20, _⟩ := hd
                          have q : a'.tmps[108]? = some (us 20) := slot_get ha 20 (by kernel_rfl) (by kernel_rfl)
                          rw [show us 20 = .bool false from d20] at q
                          exact wanted_other rfl rfl q
                        · refine stageOf_skip rfl (fun us vals w3 a' ha hd => ?_) (fun _ => rfl)
                          obtain ⟨d20, _⟩ := hd
                          have q : a'.tmps[108]? = some (us 20) := slot_get ha 20 (by kernel_rfl) (by kernel_rfl)
                          rw [show us 20 = .bool false from d20] at q
                          exact wanted_other rfl rfl q
                        · refine stageOf_skip rfl (fun us vals w3 a' ha hd => ?_) (fun _ => rfl)
                          obtain ⟨d20, _⟩ := hd
                          have q : a'.tmps[108]? = some (us 20) := slot_get ha 20 (by kernel_rfl) (by kernel_rfl)
                          rw [show us 20 = .bool false from d20] at q
                          exact wanted_other rfl rfl q
                        · refine stageOf_skip rfl (fun us vals w3 a' ha hd => ?_) (fun _ => rfl)
                          obtain ⟨_, _, d20, _, _⟩ := hd
                          have q : a'.tmps[108]? = some (us 20) := slot_get ha 20 (by kernel_rfl) (by kernel_rfl)
                          rw [show us 20 = .bool false from d20] at q
                          exact wanted_other rfl rfl q
                        · refine stageOf_skip rfl (fun us vals w3 a' ha hd => ?_) (fun _ => rfl)
                          obtain ⟨_, _, d20, _⟩ := hd
                          have q : a'.tmps[108]? = some (us 20) := slot_get ha 20 (by kernel_rfl) (by kernel_rfl)
                          rw [show us 20 = .bool false from d20] at q
                          exact wanted_other rfl rfl q
                        · refine stageOf_skip rfl (fun us vals w3 a' ha hd => ?_) (fun _ => rfl)
                          obtain ⟨_, d20, _⟩ := hd
                          have q : a'.tmps[108]? = some (us 20) := slot_get ha 20 (by kernel_rfl) (by kernel_rfl)
                          rw [show us 20 = .bool false from d20] at q
                          exact wanted_other rfl rfl q
                        · refine stageOf_free rfl (fun us vals w3 a' ha hd => ?_) ?_
                          · obtain ⟨_, _, d12, _⟩ := hd
                            have q : a'.tmps[100]? = some (us 12) := slot_get ha 12 (by kernel_rfl) (by kernel_rfl)
                            rw [show us 12 = .bool false from d12] at q
                            exact wanted_some rfl rfl q
                          intro us vals w3 a' ha hle hW hd hv K hK
                          obtain ⟨d20, d32, _, _⟩ := hd
                          have q108 : a'.tmps[108]? = some (us 20) := slot_get ha 20 (by kernel_rfl) (by kernel_rfl)
                          rw [show us 20 = .bool false from d20] at q108
                          have q120 : a'.tmps[120]? = some (us 32) := slot_get ha 32 (by kernel_rfl) (by kernel_rfl)
                          rw [show us 32 = undef from d32] at q120
                          refine step_value (v := .bool false) (w2 := w3) ?_ (hK _ _ (Grow.refl _) rfl)
                          go_simp
                        · refine stageOf_free rfl (fun _ _ _ _ _ _ => wanted_none rfl) ?_
                          intro us vals w3 a' ha hle hW hd hv K hK
                          obtain ⟨d12, d33, _⟩ := hd
                          have q100 : a'.tmps[100]? = some (us 12) := slot_get ha 12 (by kernel_rfl) (by kernel_rfl)
                          rw [show us 12 = .bool false from d12] at q100
                          have q121 : a'.tmps[121]? = some (us 33) := slot_get ha 33 (by kernel_rfl) (by kernel_rfl)
                          rw [show us 33 = .bool false from d33] at q121
                          refine step_value (v := .bool false) (w2 := w3) ?_ (hK _ _ (Grow.refl _) rfl)
                          go_simp
                      · intro us vals w3 hle hvl hV _ hf
                        exact hMx _ _ (Met.intro (hJx _ _ ⟨us 0, us 1, us 2, us 3, us 4, us 5, us 6, us 7, us 8, us 9, us 10, us 11, us 12, us 13, us 14, us 15, us 16, us 17, us 18, us 19, us 20, us 21, us 22, us 23, us 24, us 25, us 26, us 27, us 28, us 29, us 30, us 31, us 32, us 33, us 34, ⟨hf 34 (by decide) rfl, hV⟩, by kernel_rfl⟩))
                    case rest =>
                      obtain ⟨rfl, hg9⟩ := hcut
                      have Hg9 := Lib.hid (Hgi.out.trans hg9)
                      clear hg9 Hgi
                      go_wp2
                      go_roundw
                      case rel => exact ⟨i + 1, by omega, by go_num, Hg9.out⟩
                      case measure => simp [intOf]; omega
                · obtain rfl : i = n + 64 := by omega
                  have hg9 := hgk.trans (show Grow w5 wr from hgi)
                  go_wp2
                  go_roundw
                  case rel => exact ⟨k + 1, by omega, by go_num, hg9⟩
                  case measure => simp [intOf]; omega
            · obtain rfl : m = k := by omega
              clear hgp
              go_wp2_with fail
              go_loopw [11] (fun v11 wr => ∃ (k : Nat) (gs : List Value), k ≤ m ∧ v11 = .int .i64 (k : Int) ∧ FBM 9 30 1 MText w wr B Bt A m c vs N H0 H0 gs ∧ GPM 9 1 MText wr B vs gs N H0 k 0) (fun v11 _ => m - (intOf v11).toNat)
              case atStart => exact ⟨0, _, by omega, rfl, hfb, GPM.none⟩
              case round =>
                clear hfb
                obtain ⟨k, gs4, hk4, rfl, hfb, hgp⟩ := hrel
                obtain ⟨wt, rfl⟩ : ∃ wt : World, wt = wr := ⟨_, rfl⟩
                by_cases hlt : k < m
                · obtain ⟨r, cap, e, -, -, -, -⟩ := own_slice hfb.tab (by omega)
                  injection e with e1 e2 e3
                  subst e1 e3
                  obtain ⟨v, hv⟩ : ∃ v, vs[k]? = some v := ⟨_, List.getElem?_eq_getElem (by rw [Hvl.out]; exact hlt)⟩
                  obtain ⟨n, hn⟩ : ∃ n, n = N k := ⟨_, rfl⟩
                  obtain ⟨L0, hov, hmv⟩ := hfb.own k v hv
                  obtain ⟨A1, c1, rfl, -, -, -⟩ := own_reads hov
                  have hlv := LocV.startM hfb hv
                  rw [← hn] at hv hov hlv hmv
                  have hnb : n ≤ 1000000 := by rw [hn]; exact HN.out k
                  have Hv := Lib.hid hv
                  have Hn := Lib.hid hn
                  have Hov := Lib.hid hov
                  have Hmv := Lib.hid hmv
                  have Hlv := Lib.hid hlv
                  have Hfb := Lib.hid hfb
                  have Hgp := Lib.hid hgp
                  have hwtz := hfb.hz
                  obtain ⟨Z, hZ⟩ : ∃ Z : Array Value, Z = madeCells (Value.cells (.string .empty)) (64 * 1) := ⟨_, rfl⟩
                  have hmk : (Instr.makeSlice 30 (.int .i64 64) (.int .i64 64)).run Tryz.prog wt = .ok (.slice (some ⟨wt.heap.size, 0, none⟩) 64 64) (wt.alloc (.cells Z 9)) := by
                    rw [hZ]
                    exact run_make_S (P := Tryz.prog) elemTy .i64 .i64 64 (by omega) (by omega) wt
                  have hZl : Z.toList.length = 64 * 1 := by rw [hZ, Array.length_toList, size_madeCells]
                  have hZo : ∀ u ∈ Z.toList, u.oneCell' = true := by rw [hZ]; exact madeCells_one _ _ (by rfl) (by decide)
                  have hbk : Blk (wt.alloc (.cells Z 9)) wt.heap.size 9 Z.toList.toArray := Blk.new _ _ _
                  clear hfb hgp hv hn hov hlv hZ hmv
                  have HZl := Lib.hid hZl
                  have HZo := Lib.hid hZo
                  have Hbk := Lib.hid hbk
                  clear hZl hZo hbk
                  go_wp2_with fail
                  go_loopw [13] (fun v13 wr => ∃ (i : Nat) (L : List Value), i ≤ 64 ∧ v13 = .int .i64 (i : Int) ∧ Hid (L.length = 64 * 1) ∧ Hid (∀ u ∈ L, u.oneCell' = true) ∧ Hid (Blk wr wt.heap.size 9 L.toArray) ∧ Hid (Below wt.heap.size wt wr)) (fun v13 _ => 64 - (intOf v13).toNat)
                  case atStart => exact ⟨0, _, by omega, rfl, HZl, HZo, Hbk, Grow.alloc _ _⟩
                  case round =>
                    clear Hbk hmk
                    obtain ⟨i, L, hi, rfl, hLl, hLo, hbk, hgr⟩ := hrel
                    by_cases hli : i < 64
                    · have Hth := Lib.hid (blk_there hbk.out hLl.out hli)
                      have hd33 : decide ((i : Int) < 64) = true := decide_eq_true (by omega)
                      go_upto_block 15 with (fail)
                      go_cut [] from 134 to 142 (fun wx => ∃ L : List Value, Hid (L.length = 64 * 1) ∧ Hid (∀ u ∈ L, u.oneCell' = true) ∧ Hid (Blk wx wt.heap.size 9 L.toArray) ∧ Hid (Below wt.heap.size wt wx))
                      case first Jx Kx hJx hMx =>
                        go_wp2_with fail
                        refine (markText_at (k + m) i _ _ _ (by omega) rfl (by omega) (by omega)).mono ?_
                        rintro e w8 ⟨rfl, hg8⟩
                        obtain ⟨t8, ht8⟩ : ∃ t, t = mkT (k + m) i := ⟨_, rfl⟩
                        obtain ⟨cs8, hcs8⟩ : ∃ cs, cs = [Value.string t8] := ⟨_, rfl⟩
                        have hm8 : MText w8 (k + m) i cs8 := by rw [hcs8, ht8]; rfl
                        have Hw8 := Lib.hid (show w8.setCell ⟨wt.heap.size, i, none⟩ (.string t8) = w8.setCells wt.heap.size (i * 1) cs8 by rw [hcs8, Nat.mul_one]; rfl)
                        rw [← ht8]
                        have h5 := Lib.hid (setCells_blk cs8 (hg8.blkOf hbk.out) (i * 1))
                        have hf8 := (hg8.blkOf hbk.out).frozen i
                        obtain ⟨x8, hc8⟩ := there_one (there_grow Hth.out hg8)
                        have Hm8 := Lib.hid hm8
                        have Hg8 := Lib.hid (show Below wt.heap.size wt (w8.setCells wt.heap.size (i * 1) cs8) from Below.trans (Below.trans hgr.out (Below.mono hg8 hgr.out.size)) ((setCells_keep _ cs8 w8 _).below (fun j hj => by rw [hj]; exact Nat.le_refl _) (by have := hgr.out.size; have := hg8.size; omega)))
                        clear hm8 hg8 hcs8 ht8
                        go_wp2_with fail
                        rw [Hw8.out]
                        (try simp only [Act.put])
                        go_meet
                        case rel => exact ⟨setRow L (i * 1) cs8, by show _ = _; rw [setRow_len]; exact hLl.out, setRow_one _ _ _ (hM.one Hm8.out) hLo.out, h5.out, Hg8.out⟩
                      case rest =>
                        obtain ⟨L2, hl2, ho2, hb2, hg2⟩ := hcut
                        go_wp2
                        go_roundw
                        case rel => exact ⟨i + 1, L2, by omega, by go_num, hl2, ho2, hb2, hg2⟩
                        case measure => simp [intOf]; omega
                    · obtain rfl : i = 64 := by omega
                      have hgG : Grow wt wr := hgr.out
                      have hmany := Lib.hid (BlkReads hbk.out hLl.out)
                      have hfb' := Lib.hid (Hfb.out.grow hM hgG)
                      have hgp' := Lib.hid (Hgp.out.grow hM hgG)
                      have hov' := Lib.hid (own_below Hov.out hgG)
                      have hmv' := Lib.hid (Hmv.out.keep hM (KeepNot.grow hgG))
                      have hcv := own_cell hfb'.out.tab Hv.out
                      have hbz : B ≤ wr.heap.size := by have := hgG.size; omega
                      obtain ⟨old, hold⟩ : ∃ old, gs4.toArray[k]? = some old := ⟨gs4[k]'(by rw [hfb'.out.glen]; exact hlt), by simp [hfb'.out.glen, hlt]⟩
                      clear hgG
                      go_wp2_with (at_builtin; refine wpList_append_two _ rfl (.tmp 148) (.tmp 149) rfl elemTy rfl hov'.out rfl hmany.out hLo.out (by simp only [maxLen]; omega) (by omega) hbz ?_; intro g' w9 hown9 htw; have hst := step_twoM hM hne Hd.out hfb'.out hgp'.out hov'.out (by rw [← Hn.out]; exact hmv'.out) (by rw [← Hn.out]; exact Nat.le_refl _) Hlv.out hown9 htw; have hmm := (hmv'.out.keep hM (htw.not hov'.out)).app (X := L) (by have := hov'.out.1; omega); have hcq := hst.1.gtab.cell k; rw [hold] at hcq; have hfq := hst.1.gtab.frozen k; obtain ⟨A5, c5, rfl, -, -, -⟩ := own_reads hown9; have Hst := Lib.hid hst; have Hown9 := Lib.hid hown9; have Hmm := Lib.hid hmm; clear hst hown9 htw hmm)
                      have hg2 := Hst.out.2.1.put hM Hst.out.1 hne Hd.out (g := .slice A5 (n + 64) c5) (by rw [← Hn.out]; exact Hown9.out) (by rw [← Hn.out]; exact Hmm.out) (by rw [← Hn.out]; exact Hst.out.2.2) hlt
                      have hf2 := Hst.out.1.setTab hM hne k (.slice A5 (n + 64) c5)
                      go_roundw
                      case rel => exact ⟨k + 1, _, by omega, by go_num, hf2, hg2⟩
                      case measure => simp [intOf]; omega
                · obtain rfl : m = k := by omega
                  have Hfbp := Lib.hid hfb
                  have Hgpp := Lib.hid hgp
                  clear hfb hgp
                  go_wp2_with fail
                  go_loopw [14] (fun v14 wr => ∃ k : Nat, k ≤ m ∧ v14 = .int .i64 (k : Int) ∧ Grow wt wr) (fun v14 _ => m - (intOf v14).toNat)
                  case atStart => exact ⟨0, by omega, rfl, Grow.refl _⟩
                  case round =>
                    obtain ⟨k, hk2, rfl, hgk⟩ := hrel
                    obtain ⟨w5, rfl⟩ : ∃ w5 : World, w5 = wr := ⟨_, rfl⟩
                    have hfb := Hfbp.out.grow hM hgk
                    have hgp := Hgpp.out.grow hM hgk
                    by_cases hlt : k < m
                    · obtain ⟨r, cap, e, -, -, -, -⟩ := own_slice hfb.tab (by omega)
                      injection e with e1 e2 e3
                      subst e1 e3
                      obtain ⟨v, hv⟩ : ∃ v, vs[k]? = some v := ⟨_, List.getElem?_eq_getElem (by rw [Hvl.out]; exact hlt)⟩
                      obtain ⟨g, hg⟩ : ∃ g, gs4[k]? = some g := ⟨_, List.getElem?_eq_getElem (by rw [hfb.glen]; exact hlt)⟩
                      obtain ⟨n, hn⟩ : ∃ n, n = N k := ⟨_, rfl⟩
                      obtain ⟨Lv, hov, hmv⟩ := hfb.own k v hv
                      obtain ⟨A1, c1, rfl, -, -, -⟩ := own_reads hov
                      obtain ⟨L, hL, hLm⟩ := hgp.own k g hlt hg
                      obtain ⟨b, c2, rfl, -, -, -, -⟩ := own_slice hL (by omega)
                      rw [← hn] at hv hov hg hL hLm hmv
                      have hnb : n ≤ 1000000 := by rw [hn]; exact HN.out k
                      have hcv := own_cell hfb.tab hv
                      have hcg := hfb.gtab.cell k
                      rw [List.getElem?_toArray, hg] at hcg
                      have hrz : r < w5.heap.size := (hfb.tab.lt r rfl).2
                      have hqz : H0 < w5.heap.size := hfb.gtab.lt
                      have Hov := Lib.hid hov
                      have Hmv := Lib.hid hmv
                      have HL := Lib.hid hL
                      have HLm := Lib.hid hLm
                      have Hcv := Lib.hid hcv
                      have Hcg := Lib.hid hcg
                      clear hfb hgp hv hg hn hov hL hLm hmv
                      go_wp2_with fail
                      clear hcv hcg
                      go_loopw [15] (fun v15 wr => ∃ i : Nat, i ≤ n ∧ v15 = .int .i64 (i : Int) ∧ Grow w5 wr) (fun v15 _ => n - (intOf v15).toNat)
                      case atStart => exact ⟨0, by omega, rfl, Grow.refl _⟩
                      case round =>
                        obtain ⟨i, hi, rfl, hgi⟩ := hrel
                        have hcv : wr.cell? ⟨r, k, none⟩ = some (.slice A1 n c1) := (hgi.cell (p := ⟨r, k, none⟩) hrz).trans Hcv.out
                        by_cases hin : i < n
                        · obtain ⟨bv, cv, e, -, -, -, -⟩ := own_slice Hov.out (by omega)
                          injection e with e1 e2 e3
                          subst e1 e3
                          have Hgi := Lib.hid hgi
                          have Hc1 := Lib.hid (text_cell HL.out (by omega) (HLm.out i (by omega)))
                          have hbz1 : b < w5.heap.size := (HL.out.lt b rfl).2
                          have Hc2 := Lib.hid (text_cell Hov.out hin (Hmv.out i hin))
                          have hbz2 : bv < w5.heap.size := (Hov.out.lt bv rfl).2
                          have hGw : ∀ W, Grow wr W → Grow w5 W := fun W h => hgi.trans h
                          clear hgi
                          go_upto_region 41 with (fail)
                          go_cut [192] from 167 to 192 (fun vx wx => vx = .bool false ∧ Grow wr wx)
                          case first Jx Kx hJx hMx =>
                            refine wp_region_stages (by kernel_rfl) ?_
                            refine anyOrder_start [] (KeepNot 9 30) ((fun _ w => Grow wr w)) (FactsOn [.is (.slice (some ⟨r, 0, none⟩) m c), .is (.int .i64 (k : Int)), .is (.pointer (some ⟨r, k, none⟩)), .is (.slice (some ⟨bv, 0, none⟩) n c1), .is (.int .i64 (i : Int)), .is (.pointer (some ⟨bv, i, none⟩)), .is (.string (mkT k i)), .is (.int .i64 (k : Int)), .is (.int .i64 (i : Int)), .is (.string (mkT k i)), .is (.bool true), .is (.bool false), .is (.bool false), .is (.slice (some ⟨H0, 0, none⟩) m m), .is (.int .i64 (k : Int)), .is (.pointer (some ⟨H0, k, none⟩)), .is (.slice (some ⟨b, 0, none⟩) (n + 64) c2), .is (.int .i64 (i : Int)), .is (.pointer (some ⟨b, i, none⟩)), .is (.string (mkT k i)), .is (.int .i64 (k : Int)), .is (.int .i64 (i : Int)), .is (.string (mkT k i)), .is (.bool true), .is (.bool false), .is (.bool false)]) (fun i => 99) keepNot_trans keepNot_grow (fun _ _ _ hg h => Grow.trans h hg) (factsOn_mono _) (by kernel_rfl) (by kernel_rfl) (Grow.refl _) ?_ ?_
                            · refine ⟨?_, ?_, ?_, ?_, ?_, ?_, ?_, ?_, ?_, ?_, ?_, ?_, ?_, ?_, ?_, ?_, ?_, ?_, ?_, ?_, ?_, ?_, ?_, ?_, ?_, ?_, trivial⟩
                              · refine stageOf_free rfl (fun _ _ _ _ _ _ => wanted_none rfl) ?_
                                intro us vals w3 a' ha hle hW hd hv K hK
                                have q0 : a'.tmps[0]? = some (.slice (some ⟨r, 0, none⟩) m c) := slot_old ha (by kernel_rfl) (by kernel_rfl)
                                exact step_value (w2 := w3) (by go_simp) (hK _ _ (Grow.refl _) rfl)
                              · refine stageOf_free rfl (fun _ _ _ _ _ _ => wanted_none rfl) ?_
                                intro us vals w3 a' ha hle hW hd hv K hK
                                have q14 : a'.tmps[14]? = some (.int .i64 (k : Int)) := slot_old ha (by kernel_rfl) (by kernel_rfl)
                                exact step_value (w2 := w3) (by go_simp) (hK _ _ (Grow.refl _) rfl)
                              · refine stageOf_free rfl (fun _ _ _ _ _ _ => wanted_none rfl) ?_
                                intro us vals w3 a' ha hle hW hd hv K hK
                                obtain ⟨d0, d1, _⟩ := hd
                                have q167 : a'.tmps[167]? = some (us 0) := slot_get ha 0 (by kernel_rfl) (by kernel_rfl)
                                rw [show us 0 = .slice (some ⟨r, 0, none⟩) m c from d0] at q167
                                have q168 : a'.tmps[168]? = some (us 1) := slot_get ha 1 (by kernel_rfl) (by kernel_rfl)
                                rw [show us 1 = .int .i64 (k : Int) from d1] at q168
                                refine step_value (v := .pointer (some ⟨r, k, none⟩)) (w2 := w3) ?_ (hK _ _ (Grow.refl _) rfl)
                                go_simp
                                (try (intro h; omega))
                              · refine stageOf_free rfl (fun _ _ _ _ _ _ => wanted_none rfl) ?_
                                intro us vals w3 a' ha hle hW hd hv K hK
                                obtain ⟨d2, _⟩ := hd
                                have q169 : a'.tmps[169]? = some (us 2) := slot_get ha 2 (by kernel_rfl) (by kernel_rfl)
                                rw [show us 2 = .pointer (some ⟨r, k, none⟩) from d2] at q169
                                have hc : w3.cell? ⟨r, k, none⟩ = some (.slice (some ⟨bv, 0, none⟩) n c1) := (Below.cell (hGw _ hW) (p := ⟨r, k, none⟩) hrz).trans Hcv.out
                                refine step_value (v := .slice (some ⟨bv, 0, none⟩) n c1) (w2 := w3) ?_ (hK _ _ (Grow.refl _) rfl)
                                go_simp
                              · refine stageOf_free rfl (fun _ _ _ _ _ _ => wanted_none rfl) ?_
                                intro us vals w3 a' ha hle hW hd hv K hK
                                have q15 : a'.tmps[15]? = some (.int .i64 (i : Int)) := slot_old ha (by kernel_rfl) (by kernel_rfl)
                                exact step_value (w2 := w3) (by go_simp) (hK _ _ (Grow.refl _) rfl)
                              · refine stageOf_free rfl (fun _ _ _ _ _ _ => wanted_none rfl) ?_
                                intro us vals w3 a' ha hle hW hd hv K hK
                                obtain ⟨d3, d4, _⟩ := hd
                                have q170 : a'.tmps[170]? = some (us 3) := slot_get ha 3 (by kernel_rfl) (by kernel_rfl)
                                rw [show us 3 = .slice (some ⟨bv, 0, none⟩) n c1 from d3] at q170
                                have q171 : a'.tmps[171]? = some (us 4) := slot_get ha 4 (by kernel_rfl) (by kernel_rfl)
                                rw [show us 4 = .int .i64 (i : Int) from d4] at q171
                                refine step_value (v := .pointer (some ⟨bv, i, none⟩)) (w2 := w3) ?_ (hK _ _ (Grow.refl _) rfl)
                                go_simp
                                (try (intro h; omega))
                              · refine stageOf_free rfl (fun _ _ _ _ _ _ => wanted_none rfl) ?_
                                intro us vals w3 a' ha hle hW hd hv K hK
                                obtain ⟨d5, _⟩ := hd
                                have q172 : a'.tmps[172]? = some (us 5) := slot_get ha 5 (by kernel_rfl) (by kernel_rfl)
                                rw [show us 5 = .pointer (some ⟨bv, i, none⟩) from d5] at q172
                                have hc : w3.cell? ⟨bv, i, none⟩ = some (.string (mkT k i)) := (Below.cell (hGw _ hW) (p := ⟨bv, i, none⟩) hbz2).trans Hc2.out
                                refine step_value (v := .string (mkT k i)) (w2 := w3) ?_ (hK _ _ (Grow.refl _) rfl)
                                go_simp
                              · refine stageOf_free rfl (fun _ _ _ _ _ _ => wanted_none rfl) ?_
                                intro us vals w3 a' ha hle hW hd hv K hK
                                have q14 : a'.tmps[14]? = some (.int .i64 (k : Int)) := slot_old ha (by kernel_rfl) (by kernel_rfl)
                                exact step_value (w2 := w3) (by go_simp) (hK _ _ (Grow.refl _) rfl)
                              · refine stageOf_free rfl (fun _ _ _ _ _ _ => wanted_none rfl) ?_
                                intro us vals w3 a' ha hle hW hd hv K hK
                                have q15 : a'.tmps[15]? = some (.int .i64 (i : Int)) := slot_old ha (by kernel_rfl) (by kernel_rfl)
                                exact step_value (w2 := w3) (by go_simp) (hK _ _ (Grow.refl _) rfl)
                              · refine stageOf_free rfl (fun _ _ _ _ _ _ => wanted_none rfl) ?_
                                intro us vals w3 a' ha hle hW hd hv K hK
                                obtain ⟨d7, d8, _⟩ := hd
                                have q174 : a'.tmps[174]? = some (us 7) := slot_get ha 7 (by kernel_rfl) (by kernel_rfl)
                                rw [show us 7 = .int .i64 (k : Int) from d7] at q174
                                have q175 : a'.tmps[175]? = some (us 8) := slot_get ha 8 (by kernel_rfl) (by kernel_rfl)
                                rw [show us 8 = .int .i64 (i : Int) from d8] at q175
                                refine step_call (f := 59) (args := #[.int .i64 (k), .int .i64 (i : Int)]) (by go_simp) ?_
                                refine (markText_at k i _ _ w3 rfl rfl (by omega) (by omega)).mono ?_
                                rintro e w4 ⟨rfl, hg4⟩
                                exact ⟨_, rfl, hK _ _ hg4 rfl⟩
                              · refine stageOf_free rfl (fun _ _ _ _ _ _ => wanted_none rfl) ?_
                                intro us vals w3 a' ha hle hW hd hv K hK
                                obtain ⟨d6, d9, _⟩ := hd
                                have q173 : a'.tmps[173]? = some (us 6) := slot_get ha 6 (by kernel_rfl) (by kernel_rfl)
                                rw [show us 6 = .string (mkT k i) from d6] at q173
                                have q176 : a'.tmps[176]? = some (us 9) := slot_get ha 9 (by kernel_rfl) (by kernel_rfl)
                                rw [show us 9 = .string (mkT k i) from d9] at q176
                                refine step_value (v := .bool true) (w2 := w3) ?_ (hK _ _ (Grow.refl _) rfl)
                                go_simp
                              · refine stageOf_free rfl (fun _ _ _ _ _ _ => wanted_none rfl) ?_
                                intro us vals w3 a' ha hle hW hd hv K hK
                                obtain ⟨d10, _⟩ := hd
                                have q177 : a'.tmps[177]? = some (us 10) := slot_get ha 10 (by kernel_rfl) (by kernel_rfl)
                                rw [show us 10 = .bool true from d10] at q177
                                refine step_value (v := .bool false) (w2 := w3) ?_ (hK _ _ (Grow.refl _) rfl)
                                go_simp
                              · refine stageOf_free rfl (fun _ _ _ _ _ _ => wanted_none rfl) ?_
                                intro us vals w3 a' ha hle hW hd hv K hK
                                obtain ⟨d11, _, _⟩ := hd
                                have q178 : a'.tmps[178]? = some (us 11) := slot_get ha 11 (by kernel_rfl) (by kernel_rfl)
                                rw [show us 11 = .bool false from d11] at q178
                                exact step_value (w2 := w3) (by go_simp) (hK _ _ (Grow.refl _) rfl)
                              · refine stageOf_free rfl (fun us vals w3 a' ha hd => ?_) ?_
                                · obtain ⟨d12, _⟩ := hd
                                  have q : a'.tmps[179]? = some (us 12) := slot_get ha 12 (by kernel_rfl) (by kernel_rfl)
                                  rw [show us 12 = .bool false from d12] at q
                                  exact wanted_some rfl rfl q
                                intro us vals w3 a' ha hle hW hd hv K hK
                                have q5 : a'.tmps[5]? = some (.slice (some ⟨H0, 0, none⟩) m m) := slot_old ha (by kernel_rfl) (by kernel_rfl)
                                exact step_value (w2 := w3) (by go_simp) (hK _ _ (Grow.refl _) rfl)
                              · refine stageOf_free rfl (fun us vals w3 a' ha hd => ?_) ?_
                                · obtain ⟨d12, _⟩ := hd
                                  have q : a'.tmps[179]? = some (us 12) := slot_get ha 12 (by kernel_rfl) (by kernel_rfl)
                                  rw [show us 12 = .bool false from d12] at q
                                  exact wanted_some rfl rfl q
                                intro us vals w3 a' ha hle hW hd hv K hK
                                have q14 : a'.tmps[14]? = some (.int .i64 (k : Int)) := slot_old ha (by kernel_rfl) (by kernel_rfl)
                                exact step_value (w2 := w3) (by go_simp) (hK _ _ (Grow.refl _) rfl)
                              · refine stageOf_free rfl (fun us vals w3 a' ha hd => ?_) ?_
                                · obtain ⟨_, _, d12, _⟩ := hd
                                  have q : a'.tmps[179]? = some (us 12) := slot_get ha 12 (by kernel_rfl) (by kernel_rfl)
                                  rw [show us 12 = .bool false from d12] at q
                                  exact wanted_some rfl rfl q
                                intro us vals w3 a' ha hle hW hd hv K hK
                                obtain ⟨d13, d14, _, _⟩ := hd
                                have q180 : a'.tmps[180]? = some (us 13) := slot_get ha 13 (by kernel_rfl) (by kernel_rfl)
                                rw [show us 13 = .slice (some ⟨H0, 0, none⟩) m m from d13] at q180
                                have q181 : a'.tmps[181]? = some (us 14) := slot_get ha 14 (by kernel_rfl) (by kernel_rfl)
                                rw [show us 14 = .int .i64 (k : Int) from d14] at q181
                                refine step_value (v := .pointer (some ⟨H0, k, none⟩)) (w2 := w3) ?_ (hK _ _ (Grow.refl _) rfl)
                                go_simp
                                (try (intro h; omega))
                              · refine stageOf_free rfl (fun us vals w3 a' ha hd => ?_) ?_
                                · obtain ⟨_, d12, _⟩ := hd
                                  have q : a'.tmps[179]? = some (us 12) := slot_get ha 12 (by kernel_rfl) (by kernel_rfl)
                                  rw [show us 12 = .bool false from d12] at q
                                  exact wanted_some rfl rfl q
                                intro us vals w3 a' ha hle hW hd hv K hK
                                obtain ⟨d15, _, _⟩ := hd
                                have q182 : a'.tmps[182]? = some (us 15) := slot_get ha 15 (by kernel_rfl) (by kernel_rfl)
                                rw [show us 15 = .pointer (some ⟨H0, k, none⟩) from d15] at q182
                                have hc : w3.cell? ⟨H0, k, none⟩ = some (.slice (some ⟨b, 0, none⟩) (n + 64) c2) := (Below.cell (hGw _ hW) (p := ⟨H0, k, none⟩) hqz).trans Hcg.out
                                refine step_value (v := .slice (some ⟨b, 0, none⟩) (n + 64) c2) (w2 := w3) ?_ (hK _ _ (Grow.refl _) rfl)
                                go_simp
                              · refine stageOf_free rfl (fun us vals w3 a' ha hd => ?_) ?_
                                · obtain ⟨d12, _⟩ := hd
                                  have q : a'.tmps[179]? = some (us 12) := slot_get ha 12 (by kernel_rfl) (by kernel_rfl)
                                  rw [show us 12 = .bool false from d12] at q
                                  exact wanted_some rfl rfl q
                                intro us vals w3 a' ha hle hW hd hv K hK
                                have q15 : a'.tmps[15]? = some (.int .i64 (i : Int)) := slot_old ha (by kernel_rfl) (by kernel_rfl)
                                exact step_value (w2 := w3) (by go_simp) (hK _ _ (Grow.refl _) rfl)
                              · refine stageOf_free rfl (fun us vals w3 a' ha hd => ?_) ?_
                                · obtain ⟨_, _, d12, _⟩ := hd
                                  have q : a'.tmps[179]? = some (us 12) := slot_get ha 12 (by kernel_rfl) (by kernel_rfl)
                                  rw [show us 12 = .bool false from d12] at q
                                  exact wanted_some rfl rfl q
                                intro us vals w3 a' ha hle hW hd hv K hK
                                obtain ⟨d16, d17, _, _⟩ := hd
                                have q183 : a'.tmps[183]? = some (us 16) := slot_get ha 16 (by kernel_rfl) (by kernel_rfl)
                                rw [show us 16 = .slice (some ⟨b, 0, none⟩) (n + 64) c2 from d16] at q183
                                have q184 : a'.tmps[184]? = some (us 17) := slot_get ha 17 (by kernel_rfl) (by kernel_rfl)
                                rw [show us 17 = .int .i64 (i : Int) from d17] at q184
                                refine step_value (v := .pointer (some ⟨b, i, none⟩)) (w2 := w3) ?_ (hK _ _ (Grow.refl _) rfl)
                                go_simp
                                (try (intro h; omega))
                              · refine stageOf_free rfl (fun us vals w3 a' ha hd => ?_) ?_
                                · obtain ⟨_, d12, _⟩ := hd
                                  have q : a'.tmps[179]? = some (us 12) := slot_get ha 12 (by kernel_rfl) (by kernel_rfl)
                                  rw [show us 12 = .bool false from d12] at q
                                  exact wanted_some rfl rfl q
                                intro us vals w3 a' ha hle hW hd hv K hK
                                obtain ⟨d18, _, _⟩ := hd
                                have q185 : a'.tmps[185]? = some (us 18) := slot_get ha 18 (by kernel_rfl) (by kernel_rfl)
                                rw [show us 18 = .pointer (some ⟨b, i, none⟩) from d18] at q185
                                have hc : w3.cell? ⟨b, i, none⟩ = some (.string (mkT k i)) := (Below.cell (hGw _ hW) (p := ⟨b, i, none⟩) hbz1).trans Hc1.out
                                refine step_value (v := .string (mkT k i)) (w2 := w3) ?_ (hK _ _ (Grow.refl _) rfl)
                                go_simp
                              · refine stageOf_free rfl (fun us vals w3 a' ha hd => ?_) ?_
                                · obtain ⟨d12, _⟩ := hd
                                  have q : a'.tmps[179]? = some (us 12) := slot_get ha 12 (by kernel_rfl) (by kernel_rfl)
                                  rw [show us 12 = .bool false from d12] at q
                                  exact wanted_some rfl rfl q
                                intro us vals w3 a' ha hle hW hd hv K hK
                                have q14 : a'.tmps[14]? = some (.int .i64 (k : Int)) := slot_old ha (by kernel_rfl) (by kernel_rfl)
                                exact step_value (w2 := w3) (by go_simp) (hK _ _ (Grow.refl _) rfl)
                              · refine stageOf_free rfl (fun us vals w3 a' ha hd => ?_) ?_
                                · obtain ⟨d12, _⟩ := hd
                                  have q : a'.tmps[179]? = some (us 12) := slot_get ha 12 (by kernel_rfl) (by kernel_rfl)
                                  rw [show us 12 = .bool false from d12] at q
                                  exact wanted_some rfl rfl q
                                intro us vals w3 a' ha hle hW hd hv K hK
                                have q15 : a'.tmps[15]? = some (.int .i64 (i : Int)) := slot_old ha (by kernel_rfl) (by kernel_rfl)
                                exact step_value (w2 := w3) (by go_simp) (hK _ _ (Grow.refl _) rfl)
                              · refine stageOf_free rfl (fun us vals w3 a' ha hd => ?_) ?_
                                · obtain ⟨_, _, d12, _, _⟩ := hd
                                  have q : a'.tmps[179]? = some (us 12) := slot_get ha 12 (by kernel_rfl) (by kernel_rfl)
                                  rw [show us 12 = .bool false from d12] at q
                                  exact wanted_some rfl rfl q
                                intro us vals w3 a' ha hle hW hd hv K hK
                                obtain ⟨d20, d21, _, _, _⟩ := hd
                                have q187 : a'.tmps[187]? = some (us 20) := slot_get ha 20 (by kernel_rfl) (by kernel_rfl)
                                rw [show us 20 = .int .i64 (k : Int) from d20] at q187
                                have q188 : a'.tmps[188]? = some (us 21) := slot_get ha 21 (by kernel_rfl) (by kernel_rfl)
                                rw [show us 21 = .int .i64 (i : Int) from d21] at q188
                                refine step_call (f := 59) (args := #[.int .i64 (k), .int .i64 (i : Int)]) (by go_simp) ?_
                                refine (markText_at k i _ _ w3 rfl rfl (by omega) (by omega)).mono ?_
                                rintro e w4 ⟨rfl, hg4⟩
                                exact ⟨_, rfl, hK _ _ hg4 rfl⟩
                              · refine stageOf_free rfl (fun us vals w3 a' ha hd => ?_) ?_
                                · obtain ⟨_, _, d12, _⟩ := hd
                                  have q : a'.tmps[179]? = some (us 12) := slot_get ha 12 (by kernel_rfl) (by kernel_rfl)
                                  rw [show us 12 = .bool false from d12] at q
                                  exact wanted_some rfl rfl q
                                intro us vals w3 a' ha hle hW hd hv K hK
                                obtain ⟨d19, d22, _, _⟩ := hd
                                have q186 : a'.tmps[186]? = some (us 19) := slot_get ha 19 (by kernel_rfl) (by kernel_rfl)
                                rw [show us 19 = .string (mkT k i) from d19] at q186
                                have q189 : a'.tmps[189]? = some (us 22) := slot_get ha 22 (by kernel_rfl) (by kernel_rfl)
                                rw [show us 22 = .string (mkT k i) from d22] at q189
                                refine step_value (v := .bool true) (w2 := w3) ?_ (hK _ _ (Grow.refl _) rfl)
                                go_simp
                              · refine stageOf_free rfl (fun us vals w3 a' ha hd => ?_) ?_
                                · obtain ⟨_, d12, _⟩ := hd
                                  have q : a'.tmps[179]? = some (us 12) := slot_get ha 12 (by kernel_rfl) (by kernel_rfl)
                                  rw [show us 12 = .bool false from d12] at q
                                  exact wanted_some rfl rfl q
                                intro us vals w3 a' ha hle hW hd hv K hK
                                obtain ⟨d23, _, _⟩ := hd
                                have q190 : a'.tmps[190]? = some (us 23) := slot_get ha 23 (by kernel_rfl) (by kernel_rfl)
                                rw [show us 23 = .bool true from d23] at q190
                                refine step_value (v := .bool false) (w2 := w3) ?_ (hK _ _ (Grow.refl _) rfl)
                                go_simp
                              · refine stageOf_free rfl (fun _ _ _ _ _ _ => wanted_none rfl) ?_
                                intro us vals w3 a' ha hle hW hd hv K hK
                                obtain ⟨d12, d24, _⟩ := hd
                                have q179 : a'.tmps[179]? = some (us 12) := slot_get ha 12 (by kernel_rfl) (by kernel_rfl)
                                rw [show us 12 = .bool false from d12] at q179
                                have q191 : a'.tmps[191]? = some (us 24) := slot_get ha 24 (by kernel_rfl) (by kernel_rfl)
                                rw [show us 24 = .bool false from d24] at q191
                                refine step_value (v := .bool false) (w2 := w3) ?_ (hK _ _ (Grow.refl _) rfl)
                                go_simp
                            · intro us vals w3 hle hvl hV _ hf
                              exact hMx _ _ (Met.intro (hJx _ _ ⟨us 0, us 1, us 2, us 3, us 4, us 5, us 6, us 7, us 8, us 9, us 10, us 11, us 12, us 13, us 14, us 15, us 16, us 17, us 18, us 19, us 20, us 21, us 22, us 23, us 24, us 25, ⟨hf 25 (by decide) rfl, hV⟩, by kernel_rfl⟩))
                          case rest =>
                            obtain ⟨rfl, hg9⟩ := hcut
                            have Hg9 := Lib.hid (Hgi.out.trans hg9)
                            clear hg9 Hgi
                            go_wp2
                            go_roundw
                            case rel => exact ⟨i + 1, by omega, by go_num, Hg9.out⟩
                            case measure => simp [intOf]; omega
                        · obtain rfl : i = n := by omega
                          have hg9 := hgk.trans (show Grow w5 wr from hgi)
                          go_wp2
                          go_roundw
                          case rel => exact ⟨k + 1, by omega, by go_num, hg9⟩
                          case measure => simp [intOf]; omega
                    · obtain rfl : m = k := by omega
                      have hkp := Lib.hid (hfb.keep)
                      clear hfb hgp
                      go_wp2
                      go_ret
                      exact ⟨rfl, hkp.out⟩
end Go.Proofs.YtfjnjlcmikhehaaGreat
