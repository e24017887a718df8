/-
  The walk of the document's Make at one text. (printed by gen/nearref.py)
-/
import Derived.Deep.CutBlock
import Derived.Deep.CutRange
import Derived.Deep.DeepCutAuto
import Derived.Test.YtamdejidkgnaeaaNearRP
import Derived.Test.YtamdejidkgnaeaaBaseD
namespace Go.Proofs.Ytamdejidkgnaeaa
open Go.RowKit GramM CurM
set_option linter.unusedVariables false
theorem readsBp {w : World} {g : Nat} {x y : Value} (h : Blk w g 46 #[x, y]) : ReadsAt w w.heap.size 2 (some ⟨g, 0, none⟩) 1 [x, y] := ⟨rfl, fun _ => ⟨g, 0, rfl, h.lt, fun j u hu => by
    rw [h.cell, Nat.zero_add]
    simpa using hu⟩⟩
theorem RowsAt.get1 {w : World} {B : Nat} {A : Option Addr} {b : List UInt8} (h : RowsAt w B A 1 [b]) : ∃ p off A' n' c', A = some ⟨p, off, none⟩ ∧ p < B ∧ w.cell? ⟨p, off, none⟩ = some (.slice A' n' c') ∧ n' ≤ c' ∧ c' ≤ maxLen ∧ BytesAt w B A' n' b := by
  obtain ⟨p, off, e, hb, hc⟩ := h.2 (by omega)
  obtain ⟨A', n', c', h1, h2, h3, h4⟩ := hc 0 b rfl
  exact ⟨p, off, A', n', c', e, hb, h1, h2, h3, h4⟩
set_option maxRecDepth 100000 in
set_option maxHeartbeats 8000000 in
theorem rnMake_any (w : World) (B : Nat) (A : Option Addr) (cD : Nat) (b : List UInt8) (hR : RowsAt w B A 1 [b]) (hB : B ≤ w.heap.size) (hn : b.length ≤ 1000000) :
    Calls Try.prog 9 #[.slice A 1 cD] w fun e w' => ∃ u F, e = .returned u ∧ Grow w w' ∧ RP w' w.heap.size u (insAllG (grams b)) (fun g => posOf (grams b) g (grams b).length) F := by
  have postTy : AppTy Try.prog 27 46 (.agg #[.string .empty, .slice none 0 0]) 2 40 := AppTy.mk' Try.underlying27 (by kernel_rfl) rfl (by decide)
  have placeTy : AppTy Try.prog 30 33 (.agg #[.int .i64 0, .int .i64 0]) 2 16 := AppTy.mk' Try.underlying30 (by kernel_rfl) rfl (by decide)
  obtain ⟨pD, oD, AD, n, c, rfl, hpD, hcD0, hnc, hcm, hb⟩ := hR.get1
  have hn : n ≤ 1000000 := by rw [← hb.len]; exact hn
  have HcD := Lib.hid (show ∀ W, Below w.heap.size w W → W.cell? ⟨pD, oD, none⟩ = some (.slice AD n c) from fun W hg => (hg.cell (p := ⟨pD, oD, none⟩) (Nat.lt_of_lt_of_le hpD hB)).trans hcD0)
  clear hR hcD0
  have Hlen := Lib.hid (show (grams b).length = n - 2 by rw [grams_len, hb.len])
  have Hof := Lib.hid (fun (i : Nat) (g : Gr) (h : (grams b)[i]? = some g) => grams_of h)
  have Hb := Lib.hid hb
  obtain ⟨gs, hgs⟩ : ∃ gs, gs = grams b := ⟨_, rfl⟩
  rw [← hgs] at Hlen Hof ⊢
  obtain ⟨N, hN⟩ : ∃ N, N = gs.length := ⟨_, rfl⟩
  have hNn : N = n - 2 := by rw [hN]; exact Hlen.out
  have hNs : N ≤ n := by omega
  have HN := Lib.hid hN
  have HNn := Lib.hid hNn
  clear hgs hb hN hNn
  go_enter Try.func9, Try.ntmps9
  go_wp2_with fail
  go_loopw [3, 4, 5, 6, 7] (fun v3 v4 v5 v6 v7 wr => (v3 = .slice none 0 0 ∧ v4 = .int .i64 0 ∧ Hid (wr = w)) ∨ ∃ (u : Value) (F : Gr → Value), u = v3 ∧ v4 = .int .i64 1 ∧ Hid (Below w.heap.size w wr) ∧ Hid (RP wr w.heap.size u (insAllG gs) (fun g => posOf gs g gs.length) F)) (fun _ v4 _ _ _ _ => 1 - (intOf v4).toNat)
  case atStart => exact Or.inl ⟨rfl, rfl, rfl⟩
  case round =>
    rcases hrel with ⟨rfl, rfl, hwr⟩ | ⟨u, F, rfl, rfl, hgE, hRE⟩
    · obtain ⟨ws, hws⟩ : ∃ ws : World, ws = wr := ⟨_, rfl⟩
      rw [← hws] at hwr ⊢
      clear hws wr
      have hwr := hwr.out
      subst hwr
      have hcD := HcD.out ws (Below.refl _ _)
      go_wp2_with fail
      go_loopw [3, 5, 6, 7] (fun v3 v5 v6 v7 wr => ∃ (i : Nat) (u : Value) (F : Gr → Value), i ≤ N ∧ u = v3 ∧ v5 = .int .i64 (i : Int) ∧ Hid (RP wr ws.heap.size u (insAllG (gs.take i)) (fun g => posOf gs g i) F) ∧ Hid (Below ws.heap.size ws wr)) (fun _ v5 _ _ _ => N - (intOf v5).toNat)
      case atStart => exact ⟨0, _, fun _ => .slice none 0 0, by omega, rfl, rfl, RP.nil _ _ _ _, Below.refl _ _⟩
      case round =>
        obtain ⟨i, u, F, hi, rfl, rfl, hR, hg⟩ := hrel
        obtain ⟨wo, rfl⟩ : ∃ wo : World, wo = wr := ⟨_, rfl⟩
        have hcDo := HcD.out wo hg.out
        by_cases hlt : i < N
        · have hi3 : i + 3 ≤ n := by have := HNn.out; omega
          have d1 : decide ((i : Int) + 3 ≤ (n : Int)) = true := decide_eq_true (by omega)
          obtain ⟨g, hgi⟩ : ∃ g, gs[i]? = some g := ⟨_, List.getElem?_eq_getElem (by rw [← HN.out]; exact hlt)⟩
          obtain ⟨b0, off, rfl, hb0, hcs⟩ := (Hb.out.below (Below.mono hg.out hB)).at_ (by omega)
          obtain ⟨g1, g2, g3⟩ := Hof.out i g hgi
          have hcv := conv3 wo b0 (off + i) (c - i) g.1 g.2.1 g.2.2 (hcs i _ g1) (by rw [Nat.add_assoc]; exact hcs _ _ g2) (by rw [Nat.add_assoc]; exact hcs _ _ g3)
          obtain ⟨t, ht⟩ : ∃ t, t = grS g := ⟨_, rfl⟩
          rw [show (⟨#[g.1, g.2.1, g.2.2]⟩ : ByteArray) = t from ht.symm] at hcv
          have Ht := Lib.hid ht
          have Hgi := Lib.hid hgi
          have Hins := Lib.hid (show insAllG (gs.take (i + 1)) = insG (insAllG (gs.take i)) g by rw [List.take_add_one, hgi]; exact insAllG_snoc _ _)
          have Hup := Lib.hid (insAllG_up (gs.take i))
          have Hmem := Lib.hid (show ∀ h, h ∈ insAllG (gs.take i) ↔ h ∈ gs.take i from fun h => mem_insAllG)
          have HQl := Lib.hid (show (insAllG (gs.take i)).length ≤ i from Nat.le_trans (insAllG_len _) (List.length_take_le _ _))
          obtain ⟨Q, hQ⟩ : ∃ Q, Q = insAllG (gs.take i) := ⟨_, rfl⟩
          rw [← hQ] at hR Hins Hup Hmem HQl
          obtain ⟨A1, c1, rfl, h11, h12, h13⟩ := own_reads hR.out.row
          obtain ⟨m, hm⟩ : ∃ m, m = Q.length := ⟨_, rfl⟩
          rw [← hm] at hR h11 h13 HQl ⊢
          have Hm := Lib.hid hm
          have hmi : m ≤ i := HQl.out
          have H13 := Lib.hid h13
          have Hone := Lib.hid hR.out.one
          have H11 := Lib.hid h11
          clear hcs g1 g2 g3 ht hgi hQ hm h13 h11
          go_upto_block 4 with (fail)
          go_cut [7] from 33 to 47 (fun v7 wx => ∃ a : Nat, a ≤ m ∧ v7 = .int .i64 (a : Int) ∧ Hid (∀ j y, j < a → Q[j]? = some y → numG y < numG g) ∧ Hid (∀ y, Q[a]? = some y → ¬ numG y < numG g) ∧ wo = wx)
          case first Jx Kx hJx hMx =>
            clear hcv
            go_wp2_with fail
            go_loopw [7] (fun v7 wr => ∃ a : Nat, a ≤ m ∧ v7 = .int .i64 (a : Int) ∧ Hid (∀ j y, j < a → Q[j]? = some y → numG y < numG g) ∧ wo = wr) (fun v7 _ => m - (intOf v7).toNat)
            case atStart => exact ⟨0, by omega, rfl, fun j y h => by omega, rfl⟩
            case round =>
              obtain ⟨a, ha, rfl, hlo, rfl⟩ := hrel
              by_cases ham : a < m
              · have d3 : decide ((a : Int) < (m : Int)) = true := decide_eq_true (by omega)
                obtain ⟨y, hy⟩ : ∃ y, Q[a]? = some y := ⟨_, List.getElem?_eq_getElem (by rw [← Hm.out]; exact ham)⟩
                obtain ⟨bb, oo, rfl, hbb, hcs⟩ := H13.out.2 (by omega)
                have hcl : wo.cell? ⟨bb, oo + a * 2, none⟩ = some (.string (grS y)) := hcs _ _ (poC_at hy).1
                have Hy := Lib.hid hy
                clear hy hcs
                by_cases hyx : numG y < numG g
                · have hls : Op.bytesLess (grS y).toList t.toList = true := by rw [Ht.out]; exact less_text hyx
                  have Hlo2 := Lib.hid (show ∀ j z, j < a + 1 → Q[j]? = some z → numG z < numG g from fun j z hj hz => by
                    by_cases e : j = a
                    · subst e
                      rw [Hy.out] at hz
                      rw [← Option.some.inj hz]
                      exact hyx
                    · exact hlo.out j z (by omega) hz)
                  go_wp2_with fail
                  go_roundw
                  case rel => exact ⟨a + 1, by omega, by go_num, Hlo2, by first | trivial | rfl⟩
                  case measure => simp [intOf]; omega
                · have hls : Op.bytesLess (grS y).toList t.toList = false := by rw [Ht.out]; exact not_less_text hyx
                  have Hge := Lib.hid (show ∀ z, Q[a]? = some z → ¬ numG z < numG g from fun z hz => by
                    rw [Hy.out] at hz
                    rw [← Option.some.inj hz]
                    exact hyx)
                  clear hyx
                  go_wp2_with fail
                  (try simp only [Act.put])
                  go_meet
                  case rel => exact ⟨a, ha, rfl, hlo, Hge, by first | trivial | rfl⟩
              · have d3 : decide ((a : Int) < (m : Int)) = false := decide_eq_false (by omega)
                have Hge := Lib.hid (show ∀ z, Q[a]? = some z → ¬ numG z < numG g from fun z hz => by
                  have := (List.getElem?_eq_some_iff.1 hz).1
                  have := Hm.out
                  omega)
                go_wp2_with fail
                (try simp only [Act.put])
                go_meet
                case rel => exact ⟨a, ha, rfl, hlo, Hge, by first | trivial | rfl⟩
          case rest =>
            obtain ⟨a, ha, rfl, hlo, hge, rfl⟩ := hcut
            clear hcv
            have hmi1 : m ≤ 1000000 := by omega
            by_cases hfound : Q[a]? = some g
            · have ham : a < m := by rw [Hm.out]; exact (List.getElem?_eq_some_iff.1 hfound).1
              have d5 : ((a : Int) == (m : Int)) = false := by rw [beq_eq_false_iff_ne]; omega
              obtain ⟨b1, o1, rfl, hb1, hcs⟩ := H13.out.2 (by omega)
              have hcl : wo.cell? ⟨b1, o1 + a * 2, none⟩ = some (.string t) := by
                rw [Ht.out]
                exact hcs _ _ (poC_at hfound).1
              have hne := str_eq t
              have Hfd := Lib.hid hfound
              clear hfound hge
              go_upto_region 14 with (fail)
              have hRP := hR.out
              have Hq := Lib.hid (show Q = insAllG (gs.take (i + 1)) by rw [Hins.out]; exact (insG_there hlo.out Hfd.out).symm)
              have hnd := up_nodup Hup.out
              have hQ1 := Hfd.out
              have hgW := hg.out
              obtain ⟨Q1, hQ1e⟩ : ∃ Q1, Q1 = Q := ⟨_, rfl⟩
              obtain ⟨F1, hF1e⟩ : ∃ F1, F1 = F := ⟨_, rfl⟩
              obtain ⟨f1, hf1e⟩ : ∃ f1 : Gr → List Nat, f1 = fun g => posOf gs g i := ⟨_, rfl⟩
              obtain ⟨m5, hm5e⟩ : ∃ m5, m5 = m := ⟨_, rfl⟩
              have Hfs := Lib.hid (show posOf gs g (i + 1) = f1 g ++ [i] by rw [hf1e]; exact posOf_more Hgi.out)
              have Hfo := Lib.hid (show ∀ h ∈ Q1, h ≠ g → f1 h = posOf gs h (i + 1) from fun h _ hne => by rw [hf1e]; exact (posOf_other Hgi.out hne).symm)
              have Hfl := Lib.hid (show (f1 g).length ≤ 1000000 by
                rw [hf1e]
                have := posOf_len gs g i
                exact Nat.le_trans this (by omega))
              have hm5 : m5 = Q1.length := by rw [hm5e, hQ1e]; exact Hm.out
              obtain ⟨A5, hA5⟩ : ∃ A5 : Option Addr, A5 = some ⟨b1, o1, none⟩ := ⟨_, rfl⟩
              obtain ⟨c5, hc5⟩ : ∃ c5, c5 = c1 := ⟨_, rfl⟩
              rw [← hQ1e] at Hq hRP hQ1 hnd
              rw [← hF1e, ← hf1e, ← hm5e, ← hA5, ← hc5] at hRP
              rw [← hm5e, ← hA5, ← hc5]
              obtain ⟨W1, hW1⟩ : ∃ W1, W1 = wo := ⟨_, rfl⟩
              rw [← hW1] at hRP hgW ⊢
              have hm5s : m5 ≤ 1000001 := by omega
              clear hcl hne hA5 hc5 hW1 hQ1e hF1e hf1e hm5e hcs d5 hlo Hfd
              have hm5a : a < m5 := by rw [hm5]; exact (List.getElem?_eq_some_iff.1 hQ1).1
              obtain ⟨bb, cc, e5, -, hbbz, -, -⟩ := own_slice (show W1.ownsRow ws.heap.size 46 2 (.slice A5 m5 c5) m5 (poC F1 Q1) by rw [hm5]; rw [hm5] at hRP; exact hRP.row) (by omega)
              injection e5 with e5 e6 e7
              subst e5 e7
              have hcp : W1.cell? ⟨bb, a * 2 + 1, none⟩ = some (F1 g) := by
                have h := hRP.row
                rw [← hm5] at h
                rw [h.cellAt (a * 2 + 1) (by omega)]
                exact (poC_at hQ1).2
              have hfp : W1.frozen? ⟨bb, a * 2 + 1, none⟩ = false := by
                have h := hRP.row
                rw [← hm5] at h
                exact h.frozenAt _
              obtain ⟨A6, c6, e8, -, -, -⟩ := own_reads (hRP.own g (List.mem_of_getElem? hQ1))
              obtain ⟨n6, hn6⟩ : ∃ n6, n6 = (f1 g).length := ⟨_, rfl⟩
              have hn6b : n6 ≤ 1000000 := by rw [hn6]; exact Hfl.out
              rw [← hn6] at e8
              rw [e8] at hcp
              obtain ⟨W2, hW2⟩ : ∃ W2, W1.alloc (.cells #[.int .i64 0, .int .i64 (i : Int)] 33) = W2 := ⟨_, rfl⟩
              have hg12 : Grow W1 W2 := by rw [← hW2]; exact Grow.alloc _ _
              have hrd2 : ReadsAt W2 (W1.heap.size + 1) 2 (some ⟨W1.heap.size, 0, none⟩) 1 [.int .i64 0, .int .i64 (i : Int)] := by rw [← hW2]; exact readsP W1 33 2 _ rfl
              have hRP2 := hRP.grow hg12
              have ho2 := hRP2.own g (List.mem_of_getElem? hQ1)
              have hbz2 : ws.heap.size ≤ W2.heap.size := Nat.le_trans hgW.size hg12.size
              rw [e8, ← hn6] at ho2
              have Hhat := Lib.hid (show ∀ v' W3, W2.grownBy W3 (Value.slice A6 n6 c6).ownBlock → W3.ownsRow ws.heap.size 33 2 v' (n6 + 1) (plC (f1 g) ++ [.int .i64 0, .int .i64 (i : Int)]) → (v'.ownBlock = (Value.slice A6 n6 c6).ownBlock ∨ v'.ownBlock = some W2.heap.size) →
                  W3.cell? ⟨bb, a * 2 + 1, none⟩ = some (.slice A6 n6 c6) ∧ W3.frozen? ⟨bb, a * 2 + 1, none⟩ = false ∧ RP (W3.setCell ⟨bb, a * 2 + 1, none⟩ v') ws.heap.size (.slice (some ⟨bb, 0, none⟩) m5 c5) (insAllG (gs.take (i + 1))) (fun h => posOf gs h (i + 1)) (updG F1 g v') ∧ Below ws.heap.size ws (W3.setCell ⟨bb, a * 2 + 1, none⟩ v') from fun v' W3 hgr hown hat => by
                have hk : Keep (fun j => (F1 g).ownBlock = some j) W2 W3 := by rw [e8]; exact Keep.grown hgr
                have hp := hRP2.put hnd hQ1 (v := v') (l := f1 g ++ [i]) hk (by rw [List.length_append, ← hn6, plC_snoc]; exact hown) (by rw [e8]; exact hat) rfl
                have hrow3 : W3.ownsRow ws.heap.size 46 2 (.slice (some ⟨bb, 0, none⟩) m5 c5) Q1.length (poC F1 Q1) := hk.own hRP2.row fun x h1 h2 => absurd (own_types hRP2.row (hRP2.own g (List.mem_of_getElem? hQ1)) h1 h2) (by decide)
                rw [← hm5] at hrow3
                refine ⟨?_, hrow3.frozenAt _, ?_, ?_⟩
                · rw [hrow3.cellAt (a * 2 + 1) (by omega), (poC_at hQ1).2, e8]
                · rw [← Hq.out]
                  exact hp.congr fun h hh => by
                    by_cases e : h = g
                    · subst e
                      rw [updG_self]
                      exact (Hfs.out).symm
                    · rw [updG_ne _ _ e]
                      exact Hfo.out h hh e
                · refine Below.setCell (Below.trans hgW (Below.trans (Below.mono hg12 hgW.size) ((Keep.grown hgr).below (fun j hj => (ho2.lt j hj).1) hbz2))) ?_ _
                  exact (hRP.row.lt bb rfl).1)
              clear hRP hRP2 hQ1 hnd hg12 hn6 hm5 e8 hcDo
              go_wp2_with (first | (rw [hW2]; clear hW2) | (at_builtin; (refine wpList_append_reads _ rfl (.tmp 80) (.tmp 84) rfl placeTy rfl ho2 rfl hrd2 (by simp [Value.oneCell']) (by simp only [maxLen]; omega) (by omega) hbz2 ?_; intro v' W3 hown3 hgr3 hat3; obtain ⟨A8, c8, rfl, -, -, -⟩ := own_reads hown3; obtain ⟨hc3, hf3, hp3, hl3⟩ := Hhat.out _ W3 hgr3 hown3 hat3; have Hp3 := Lib.hid hp3; have Hl3 := Lib.hid hl3; clear hown3 hgr3 hat3 hp3 hl3)))
              go_roundw
              case rel => exact ⟨i + 1, _, _, by omega, rfl, by go_num, Hp3.out, Hl3.out⟩
              case measure => simp [intOf]; omega
            · have Hgt := Lib.hid (show ∀ y, Q[a]? = some y → numG g < numG y from fun y hy => by
                have h1 := hge.out y hy
                have h2 : numG y ≠ numG g := fun e => hfound (by rw [hy, numG_inj e])
                omega)
              have Hnm := Lib.hid (not_in_up Hup.out hlo.out Hgt.out)
              have Hfn := Lib.hid hfound
              clear hge hfound
              by_cases ham : a < m
              · have d5 : ((a : Int) == (m : Int)) = false := by rw [beq_eq_false_iff_ne]; omega
                obtain ⟨y, hy⟩ : ∃ y, Q[a]? = some y := ⟨_, List.getElem?_eq_getElem (by rw [← Hm.out]; exact ham)⟩
                obtain ⟨b1, o1, hA1, hb1, hcs⟩ := H13.out.2 (by omega)
                have hcl : wo.cell? ⟨b1, o1 + a * 2, none⟩ = some (.string (grS y)) := hcs _ _ (poC_at hy).1
                have hne : ((grS y).toList == t.toList) = false := by
                  rw [Ht.out]
                  exact str_ne fun e => Hfn.out (by rw [hy, grS_inj e])
                clear hy hcs
                subst hA1
                go_upto_region 13 with (fail)
                obtain ⟨A1, hA1⟩ : ∃ A : Option Addr, A = some ⟨b1, o1, none⟩ := ⟨_, rfl⟩
                rw [← hA1] at hR H13 ⊢
                clear hA1 hcl hne hb1 d5 ham
                have Hac := Lib.hid (show a ≤ c1 from Nat.le_trans ha H11.out)
                have Ham := Lib.hid ha
                have hmb : m + 1 ≤ 17592186 := by omega
                have Hmb := Lib.hid hmb
                have Hhead := Lib.hid (show ∀ W, LeP wo.heap.size #[.string t, .slice none 0 0] wo W → ReadsAt W W.heap.size 2 A1 a (poC F (Q.take a)) from fun W h => by
                  have h2 := (H13.out.head a ha).below (h.low (Nat.le_refl _))
                  rw [poC_take] at h2
                  exact h2.more h.size)
                have Htail := Lib.hid (show ∀ W, LeP wo.heap.size #[.string t, .slice none 0 0] wo W → ReadsAt W W.heap.size 2 (cutA A1 c1 a 2) (m - a) (poC F (Q.drop a)) from fun W h => by
                  have h2 := (H13.out.tail a ha H11.out).below (h.low (Nat.le_refl _))
                  rw [poC_drop] at h2
                  exact h2.more h.size)
                have Hone1 := Lib.hid (show ∀ u ∈ poC F (Q.take a), u.oneCell' = true from fun u hu => Hone.out u (by rw [← poC_take] at hu; exact List.mem_of_mem_take hu))
                have Hone2 := Lib.hid (show ∀ u ∈ poC F (Q.drop a), u.oneCell' = true from fun u hu => Hone.out u (by rw [← poC_drop] at hu; exact List.mem_of_mem_drop hu))
                go_cut [3] from 61 to 73 (fun v3 wx => ∃ (A5 : Option Addr) (m5 c5 : Nat), v3 = .slice A5 m5 c5 ∧ m5 = m + 1 ∧ Hid (wx.ownsRow wo.heap.size 46 2 (.slice A5 m5 c5) m5 (poC F (Q.take a) ++ [.string t, .slice none 0 0] ++ poC F (Q.drop a))) ∧ Hid (Grow wo wx))
                case first Jx Kx hJx hMx =>
                  refine wp_region_stages (by kernel_rfl) ?_
                  refine anyOrder_pop rfl (by kernel_rfl) ?_
                  refine anyOrder_start [0, 4, 8, 12] (LeP wo.heap.size #[.string t, .slice none 0 0]) (insP wo.heap.size F Q a t) (FactsOn [.any, .is (.slice A1 m c1), .is (.int .i64 (a : Int)), .is (.slice A1 a c1), .any, .is (.string t), .is (.agg #[.string t, .slice none 0 0]), .oneP wo.heap.size #[.string t, .slice none 0 0], .any, .is (.slice A1 m c1), .is (.int .i64 (a : Int)), .is (.slice (cutA A1 c1 a 2) (m - a) (c1 - a)), .any]) (fun i => 99) leP_trans leP_grow (insP.grow) (factsOn_mono _) (by kernel_rfl) (by kernel_rfl) trivial ?_ ?_
                  · refine ⟨?_, ?_, ?_, ?_, ?_, ?_, ?_, ?_, ?_, ?_, ?_, ?_, ?_, trivial⟩
                    · refine stageOf_mem (t := 0) rfl ?_
                      intro us vals w3 a' ha hle hW hd hv
                      obtain rfl := List.eq_nil_of_length_eq_zero (Nat.le_zero.1 (show vals.length ≤ 0 from Nat.le_of_eq hv))
                      refine ⟨wanted_none rfl, fun K hK => ?_⟩
                      exact step_value (v := .slice (some ⟨w3.heap.size, 0, none⟩) 0 0) (w2 := w3.alloc (.cells #[] 46)) (by go_simp) (hK _ _ (leP_grow _ _ (Grow.alloc _ _)) ⟨World.ownsRow_lit w3 #[] 0 hle.size (by decide) rfl, _, rfl⟩)
                    · refine stageOf_free rfl (fun _ _ _ _ _ _ => wanted_none rfl) ?_
                      intro us vals w3 a' ha hle hW hd hv K hK
                      have q3 : a'.tmps[3]? = some (.slice A1 m c1) := slot_old ha (by kernel_rfl) (by kernel_rfl)
                      exact step_value (w2 := w3) (by go_simp) (hK _ _ (Grow.refl _) rfl)
                    · refine stageOf_free rfl (fun _ _ _ _ _ _ => wanted_none rfl) ?_
                      intro us vals w3 a' ha hle hW hd hv K hK
                      have q7 : a'.tmps[7]? = some (.int .i64 (a : Int)) := slot_old ha (by kernel_rfl) (by kernel_rfl)
                      exact step_value (w2 := w3) (by go_simp) (hK _ _ (Grow.refl _) rfl)
                    · refine stageOf_free rfl (fun _ _ _ _ _ _ => wanted_none rfl) ?_
                      intro us vals w3 a' ha hle hW hd hv K hK
                      obtain ⟨d1, d2, _⟩ := hd
                      have q62 : a'.tmps[62]? = some (us 1) := slot_get ha 1 (by kernel_rfl) (by kernel_rfl)
                      rw [show us 1 = .slice A1 m c1 from d1] at q62
                      have q63 : a'.tmps[63]? = some (us 2) := slot_get ha 2 (by kernel_rfl) (by kernel_rfl)
                      rw [show us 2 = .int .i64 (a : Int) from d2] at q63
                      refine step_value (v := .slice A1 a c1) (w2 := w3) ?_ (hK _ _ (Grow.refl _) rfl)
                      have h9 := run_cut_head postTy A1 m c1 a .i64 (a : Int) rfl Hac.out w3
                      simp only [execOp, Option.map_some, Option.map_none, evalT q62, evalT q63, Sem.run_bind, run_at postTy, h9, Result.andThen_ok, Sem.run_pure]
                    · refine stageOf_mem (t := 1) rfl ?_
                      intro us vals w3 a' ha hle hW hd hv
                      obtain ⟨d0, d3, _⟩ := hd
                      obtain ⟨x0, rfl⟩ := List.length_eq_one_iff.1 hv
                      obtain rfl : us 0 = x0 := by have h0 : some x0 = some (us 0) := d0; injection h0 with h0; exact h0.symm
                      refine ⟨wanted_none rfl, fun K hK => ?_⟩
                      have q61 : a'.tmps[61]? = some (us 0) := slot_get ha 0 (by kernel_rfl) (by kernel_rfl)
                      have q64 : a'.tmps[64]? = some (us 3) := slot_get ha 3 (by kernel_rfl) (by kernel_rfl)
                      rw [show us 3 = .slice A1 a c1 from d3] at q64
                      refine wp_append_two w3 (.tmp 61) (.tmp 64) rfl postTy (evalT q61) hW.1 (evalT q64) (Hhead.out w3 hle) Hone1.out (by have := Hmb.out; simp only [maxLen]; omega) (by have := Hmb.out; omega) hle.size ?_
                      intro v2 w4 ho htw
                      refine hK _ _ (two_P hW.1 ho htw (Or.inl hW.2)) ?_
                      rw [Nat.zero_add, List.nil_append] at ho
                      exact ho
                    · refine stageOf_free rfl (fun _ _ _ _ _ _ => wanted_none rfl) ?_
                      intro us vals w3 a' ha hle hW hd hv K hK
                      have q6 : a'.tmps[6]? = some (.string t) := slot_old ha (by kernel_rfl) (by kernel_rfl)
                      exact step_value (w2 := w3) (by go_simp) (hK _ _ (Grow.refl _) rfl)
                    · refine stageOf_free rfl (fun _ _ _ _ _ _ => wanted_none rfl) ?_
                      intro us vals w3 a' ha hle hW hd hv K hK
                      obtain ⟨d5, _⟩ := hd
                      have q66 : a'.tmps[66]? = some (us 5) := slot_get ha 5 (by kernel_rfl) (by kernel_rfl)
                      rw [show us 5 = .string t from d5] at q66
                      refine step_value (v := .agg #[.string t, .slice none 0 0]) (w2 := w3) ?_ (hK _ _ (Grow.refl _) rfl)
                      go_simp
                    · refine stageOf_free rfl (fun _ _ _ _ _ _ => wanted_none rfl) ?_
                      intro us vals w3 a' ha hle hW hd hv K hK
                      obtain ⟨d6, _⟩ := hd
                      have q67 : a'.tmps[67]? = some (us 6) := slot_get ha 6 (by kernel_rfl) (by kernel_rfl)
                      rw [show us 6 = .agg #[.string t, .slice none 0 0] from d6] at q67
                      refine step_value (v := .slice (some ⟨w3.heap.size, 0, none⟩) 1 1) (w2 := w3.alloc (.cells #[.string t, .slice none 0 0] 46)) (by go_simp) (hK _ _ (Grow.alloc _ _) ?_)
                      exact ⟨_, rfl, Blk.new _ _ _⟩
                    · refine stageOf_mem (t := 2) rfl ?_
                      intro us vals w3 a' ha hle hW hd hv
                      obtain ⟨d4, ⟨m7, u7, b7⟩, _, _⟩ := hd
                      refine ⟨wanted_none rfl, fun K hK => ?_⟩
                      have q65 : a'.tmps[65]? = some (us 4) := slot_get ha 4 (by kernel_rfl) (by kernel_rfl)
                      have q68 : a'.tmps[68]? = some (us 7) := slot_get ha 7 (by kernel_rfl) (by kernel_rfl)
                      rw [u7] at q68
                      obtain ⟨a0, a1, rfl⟩ : ∃ a0 a1, vals = [a0, a1] := by match vals, hv with | [a0, a1], _ => exact ⟨a0, a1, rfl⟩
                      have e1 : a1 = us 4 := by have h0 : some a1 = some (us 4) := d4; injection h0
                      subst e1
                      refine wp_append_two w3 (.tmp 65) (.tmp 68) rfl postTy (evalT q65) hW (evalT q68) (readsBp b7) (by simp [Value.oneCell']) (by have := Hmb.out; simp only [maxLen]; omega) (by have := Hmb.out; omega) hle.size ?_
                      intro v2 w4 ho htw
                      refine hK _ _ (two_P hW ho htw (Or.inr ⟨by omega, fun h => ?_⟩)) ?_
                      · obtain rfl : a = 0 := by omega
                        rfl
                      · exact ho
                    · refine stageOf_free rfl (fun _ _ _ _ _ _ => wanted_none rfl) ?_
                      intro us vals w3 a' ha hle hW hd hv K hK
                      have q3 : a'.tmps[3]? = some (.slice A1 m c1) := slot_old ha (by kernel_rfl) (by kernel_rfl)
                      exact step_value (w2 := w3) (by go_simp) (hK _ _ (Grow.refl _) rfl)
                    · refine stageOf_free rfl (fun _ _ _ _ _ _ => wanted_none rfl) ?_
                      intro us vals w3 a' ha hle hW hd hv K hK
                      have q7 : a'.tmps[7]? = some (.int .i64 (a : Int)) := slot_old ha (by kernel_rfl) (by kernel_rfl)
                      exact step_value (w2 := w3) (by go_simp) (hK _ _ (Grow.refl _) rfl)
                    · refine stageOf_free rfl (fun _ _ _ _ _ _ => wanted_none rfl) ?_
                      intro us vals w3 a' ha hle hW hd hv K hK
                      obtain ⟨d9, d10, _⟩ := hd
                      have q70 : a'.tmps[70]? = some (us 9) := slot_get ha 9 (by kernel_rfl) (by kernel_rfl)
                      rw [show us 9 = .slice A1 m c1 from d9] at q70
                      have q71 : a'.tmps[71]? = some (us 10) := slot_get ha 10 (by kernel_rfl) (by kernel_rfl)
                      rw [show us 10 = .int .i64 (a : Int) from d10] at q71
                      refine step_value (v := .slice (cutA A1 c1 a 2) (m - a) (c1 - a)) (w2 := w3) ?_ (hK _ _ (Grow.refl _) rfl)
                      have h9 := run_cut_tail postTy A1 m c1 a .i64 (a : Int) rfl Ham.out w3
                      simp only [execOp, Option.map_some, Option.map_none, evalT q70, evalT q71, Sem.run_bind, run_at postTy, h9, Result.andThen_ok, Sem.run_pure]
                    · refine stageOf_mem (t := 3) rfl ?_
                      intro us vals w3 a' ha hle hW hd hv
                      obtain ⟨d8, d11, _, _⟩ := hd
                      refine ⟨wanted_none rfl, fun K hK => ?_⟩
                      have q69 : a'.tmps[69]? = some (us 8) := slot_get ha 8 (by kernel_rfl) (by kernel_rfl)
                      have q72 : a'.tmps[72]? = some (us 11) := slot_get ha 11 (by kernel_rfl) (by kernel_rfl)
                      rw [show us 11 = .slice (cutA A1 c1 a 2) (m - a) (c1 - a) from d11] at q72
                      obtain ⟨a0, a1, a2, rfl⟩ : ∃ a0 a1 a2, vals = [a0, a1, a2] := by match vals, hv with | [a0, a1, a2], _ => exact ⟨a0, a1, a2, rfl⟩
                      have e2 : a2 = us 8 := by have h0 : some a2 = some (us 8) := d8; injection h0
                      subst e2
                      refine wp_append_two w3 (.tmp 69) (.tmp 72) rfl postTy (evalT q69) hW (evalT q72) (Htail.out w3 hle) Hone2.out (by have := Hmb.out; have := Ham.out; simp only [maxLen]; omega) (by have := Hmb.out; have := Ham.out; omega) hle.size ?_
                      intro v2 w4 ho htw
                      refine hK _ _ (two_P hW ho htw (Or.inr ⟨by omega, fun h => ?_⟩)) ?_
                      · have h9 := Ham.out
                        have h8 := Hm.out
                        obtain rfl : Q = [] := List.eq_nil_of_length_eq_zero (by omega)
                        obtain rfl : a = 0 := by omega
                        rfl
                      · have h9 := Ham.out
                        have h8 : a + 1 + (m - a) = Q.length + 1 := by have := Hm.out; omega
                        rw [h8] at ho
                        exact ho
                  · intro us vals w5 hle hvl hW ht hf
                    have e3 := ht 3 (by rw [hvl]; decide)
                    obtain ⟨q0, q1, q2, q3, rfl⟩ : ∃ q0 q1 q2 q3, vals = [q0, q1, q2, q3] := by match vals, hvl with | [q0, q1, q2, q3], _ => exact ⟨q0, q1, q2, q3, rfl⟩
                    have e4 : q3 = us 12 := by injection e3
                    subst e4
                    have hrow : w5.ownsRow wo.heap.size 46 2 (us 12) (Q.length + 1) (poC F (Q.take a) ++ [.string t, .slice none 0 0] ++ poC F (Q.drop a)) := hW
                    rw [← Hm.out] at hrow
                    obtain ⟨A5, c5, e5, -, -, -⟩ := own_reads hrow
                    have Hown5 : Hid (w5.ownsRow wo.heap.size 46 2 (.slice A5 (m + 1) c5) (m + 1) (poC F (Q.take a) ++ [.string t, .slice none 0 0] ++ poC F (Q.drop a))) := by rw [e5] at hrow; exact hrow
                    have Hg5 : Hid (Grow wo w5) := hle.low (Nat.le_refl _)
                    refine lastQ.assign (v := us 12) (s := 73) rfl (by kernel_rfl) ?_
                    exact hMx _ _ (Met.intro (hJx _ _ ⟨us 12, us 0, us 1, us 2, us 3, us 4, us 5, us 6, us 7, us 8, us 9, us 10, us 11, us 12, ⟨A5, m + 1, c5, e5, rfl, Hown5, Hg5⟩, by kernel_rfl⟩))
                case rest =>
                  obtain ⟨A5, m5, c5, rfl, hm5e, hown5, hg5⟩ := hcut
                  obtain ⟨W1, hW1⟩ : ∃ W1 : World, W1 = wc := ⟨_, rfl⟩
                  rw [← hW1] at hown5 hg5 ⊢
                  clear hW1
                  have hgW : Below ws.heap.size ws W1 := Below.trans hg.out (Below.mono hg5.out hg.out.size)
                  have hlen1 : m5 = Q.length + 1 := by rw [hm5e, Hm.out]
                  have hRP0 := hR.out.ins (k := a) (W' := W1) (u' := .slice A5 m5 c5) Hnm.out (Keep.grow hg5.out) (by
                    have h := own_base hown5.out hg.out.size
                    rw [Ht.out] at h
                    rw [hlen1] at h ⊢
                    exact h)
                  have Hq0 := Lib.hid (show Q.take a ++ g :: Q.drop a = insAllG (gs.take (i + 1)) by
                    rw [Hins.out]
                    exact (insG_at (by rw [← Hm.out]; exact ha) hlo.out Hgt.out).symm)
                  have hnd := up_nodup (insAllG_up (gs.take (i + 1)))
                  have hnt : g ∉ gs.take i := fun h => Hnm.out ((Hmem.out g).2 h)
                  obtain ⟨Q1, hQ1e⟩ : ∃ Q1, Q1 = Q.take a ++ g :: Q.drop a := ⟨_, rfl⟩
                  obtain ⟨F1, hF1e⟩ : ∃ F1 : Gr → Value, F1 = updG F g (.slice none 0 0) := ⟨_, rfl⟩
                  obtain ⟨f1, hf1e⟩ : ∃ f1 : Gr → List Nat, f1 = updG (fun g => posOf gs g i) g [] := ⟨_, rfl⟩
                  have hQ1 : Q1[a]? = some g := by
                    have hta : (Q.take a).length = a := by rw [List.length_take]; have := Hm.out; omega
                    rw [hQ1e, List.getElem?_append_right (by omega), hta, Nat.sub_self]
                    rfl
                  have Hfs := Lib.hid (show posOf gs g (i + 1) = f1 g ++ [i] by rw [hf1e, updG_self, posOf_more Hgi.out, posOf_none hnt])
                  have Hfo := Lib.hid (show ∀ h ∈ Q1, h ≠ g → f1 h = posOf gs h (i + 1) from fun h _ hne => by rw [hf1e, updG_ne _ _ hne]; exact (posOf_other Hgi.out hne).symm)
                  have Hfl := Lib.hid (show (f1 g).length ≤ 1000000 by rw [hf1e, updG_self]; exact Nat.zero_le _)
                  rw [← hQ1e] at Hq0 hRP0
                  rw [← Hq0.out] at hnd
                  have Hq := Hq0
                  have hm5 : m5 = Q1.length := by
                    rw [hlen1, hQ1e]
                    have := congrArg List.length (List.take_append_drop a Q)
                    simp only [List.length_append, List.length_cons] at this ⊢
                    omega
                  have hRP := hRP0
                  rw [← hF1e, ← hf1e] at hRP
                  have hm5s : m5 ≤ 1000001 := by omega
                  clear hRP0 hlen1 hnt hQ1e hF1e hf1e Hq0 hown5 hg5 hm5e Hone1 Hone2 Htail Hhead Hac Ham hmb Hmb
                  have hm5a : a < m5 := by rw [hm5]; exact (List.getElem?_eq_some_iff.1 hQ1).1
                  obtain ⟨bb, cc, e5, -, hbbz, -, -⟩ := own_slice (show W1.ownsRow ws.heap.size 46 2 (.slice A5 m5 c5) m5 (poC F1 Q1) by rw [hm5]; rw [hm5] at hRP; exact hRP.row) (by omega)
                  injection e5 with e5 e6 e7
                  subst e5 e7
                  have hcp : W1.cell? ⟨bb, a * 2 + 1, none⟩ = some (F1 g) := by
                    have h := hRP.row
                    rw [← hm5] at h
                    rw [h.cellAt (a * 2 + 1) (by omega)]
                    exact (poC_at hQ1).2
                  have hfp : W1.frozen? ⟨bb, a * 2 + 1, none⟩ = false := by
                    have h := hRP.row
                    rw [← hm5] at h
                    exact h.frozenAt _
                  obtain ⟨A6, c6, e8, -, -, -⟩ := own_reads (hRP.own g (List.mem_of_getElem? hQ1))
                  obtain ⟨n6, hn6⟩ : ∃ n6, n6 = (f1 g).length := ⟨_, rfl⟩
                  have hn6b : n6 ≤ 1000000 := by rw [hn6]; exact Hfl.out
                  rw [← hn6] at e8
                  rw [e8] at hcp
                  obtain ⟨W2, hW2⟩ : ∃ W2, W1.alloc (.cells #[.int .i64 0, .int .i64 (i : Int)] 33) = W2 := ⟨_, rfl⟩
                  have hg12 : Grow W1 W2 := by rw [← hW2]; exact Grow.alloc _ _
                  have hrd2 : ReadsAt W2 (W1.heap.size + 1) 2 (some ⟨W1.heap.size, 0, none⟩) 1 [.int .i64 0, .int .i64 (i : Int)] := by rw [← hW2]; exact readsP W1 33 2 _ rfl
                  have hRP2 := hRP.grow hg12
                  have ho2 := hRP2.own g (List.mem_of_getElem? hQ1)
                  have hbz2 : ws.heap.size ≤ W2.heap.size := Nat.le_trans hgW.size hg12.size
                  rw [e8, ← hn6] at ho2
                  have Hhat := Lib.hid (show ∀ v' W3, W2.grownBy W3 (Value.slice A6 n6 c6).ownBlock → W3.ownsRow ws.heap.size 33 2 v' (n6 + 1) (plC (f1 g) ++ [.int .i64 0, .int .i64 (i : Int)]) → (v'.ownBlock = (Value.slice A6 n6 c6).ownBlock ∨ v'.ownBlock = some W2.heap.size) →
                      W3.cell? ⟨bb, a * 2 + 1, none⟩ = some (.slice A6 n6 c6) ∧ W3.frozen? ⟨bb, a * 2 + 1, none⟩ = false ∧ RP (W3.setCell ⟨bb, a * 2 + 1, none⟩ v') ws.heap.size (.slice (some ⟨bb, 0, none⟩) m5 c5) (insAllG (gs.take (i + 1))) (fun h => posOf gs h (i + 1)) (updG F1 g v') ∧ Below ws.heap.size ws (W3.setCell ⟨bb, a * 2 + 1, none⟩ v') from fun v' W3 hgr hown hat => by
                    have hk : Keep (fun j => (F1 g).ownBlock = some j) W2 W3 := by rw [e8]; exact Keep.grown hgr
                    have hp := hRP2.put hnd hQ1 (v := v') (l := f1 g ++ [i]) hk (by rw [List.length_append, ← hn6, plC_snoc]; exact hown) (by rw [e8]; exact hat) rfl
                    have hrow3 : W3.ownsRow ws.heap.size 46 2 (.slice (some ⟨bb, 0, none⟩) m5 c5) Q1.length (poC F1 Q1) := hk.own hRP2.row fun x h1 h2 => absurd (own_types hRP2.row (hRP2.own g (List.mem_of_getElem? hQ1)) h1 h2) (by decide)
                    rw [← hm5] at hrow3
                    refine ⟨?_, hrow3.frozenAt _, ?_, ?_⟩
                    · rw [hrow3.cellAt (a * 2 + 1) (by omega), (poC_at hQ1).2, e8]
                    · rw [← Hq.out]
                      exact hp.congr fun h hh => by
                        by_cases e : h = g
                        · subst e
                          rw [updG_self]
                          exact (Hfs.out).symm
                        · rw [updG_ne _ _ e]
                          exact Hfo.out h hh e
                    · refine Below.setCell (Below.trans hgW (Below.trans (Below.mono hg12 hgW.size) ((Keep.grown hgr).below (fun j hj => (ho2.lt j hj).1) hbz2))) ?_ _
                      exact (hRP.row.lt bb rfl).1)
                  clear hRP hRP2 hQ1 hnd hg12 hn6 hm5 e8 hcDo
                  go_wp2_with (first | (rw [hW2]; clear hW2) | (at_builtin; (refine wpList_append_reads _ rfl (.tmp 80) (.tmp 84) rfl placeTy rfl ho2 rfl hrd2 (by simp [Value.oneCell']) (by simp only [maxLen]; omega) (by omega) hbz2 ?_; intro v' W3 hown3 hgr3 hat3; obtain ⟨A8, c8, rfl, -, -, -⟩ := own_reads hown3; obtain ⟨hc3, hf3, hp3, hl3⟩ := Hhat.out _ W3 hgr3 hown3 hat3; have Hp3 := Lib.hid hp3; have Hl3 := Lib.hid hl3; clear hown3 hgr3 hat3 hp3 hl3)))
                  go_roundw
                  case rel => exact ⟨i + 1, _, _, by omega, rfl, by go_num, Hp3.out, Hl3.out⟩
                  case measure => simp [intOf]; omega
              · have d5 : ((a : Int) == (m : Int)) = true := by rw [show a = m by omega]; simp
                go_upto_region 13 with (fail)
                clear d5 ham
                have Hac := Lib.hid (show a ≤ c1 from Nat.le_trans ha H11.out)
                have Ham := Lib.hid ha
                have hmb : m + 1 ≤ 17592186 := by omega
                have Hmb := Lib.hid hmb
                have Hhead := Lib.hid (show ∀ W, LeP wo.heap.size #[.string t, .slice none 0 0] wo W → ReadsAt W W.heap.size 2 A1 a (poC F (Q.take a)) from fun W h => by
                  have h2 := (H13.out.head a ha).below (h.low (Nat.le_refl _))
                  rw [poC_take] at h2
                  exact h2.more h.size)
                have Htail := Lib.hid (show ∀ W, LeP wo.heap.size #[.string t, .slice none 0 0] wo W → ReadsAt W W.heap.size 2 (cutA A1 c1 a 2) (m - a) (poC F (Q.drop a)) from fun W h => by
                  have h2 := (H13.out.tail a ha H11.out).below (h.low (Nat.le_refl _))
                  rw [poC_drop] at h2
                  exact h2.more h.size)
                have Hone1 := Lib.hid (show ∀ u ∈ poC F (Q.take a), u.oneCell' = true from fun u hu => Hone.out u (by rw [← poC_take] at hu; exact List.mem_of_mem_take hu))
                have Hone2 := Lib.hid (show ∀ u ∈ poC F (Q.drop a), u.oneCell' = true from fun u hu => Hone.out u (by rw [← poC_drop] at hu; exact List.mem_of_mem_drop hu))
                go_cut [3] from 61 to 73 (fun v3 wx => ∃ (A5 : Option Addr) (m5 c5 : Nat), v3 = .slice A5 m5 c5 ∧ m5 = m + 1 ∧ Hid (wx.ownsRow wo.heap.size 46 2 (.slice A5 m5 c5) m5 (poC F (Q.take a) ++ [.string t, .slice none 0 0] ++ poC F (Q.drop a))) ∧ Hid (Grow wo wx))
                case first Jx Kx hJx hMx =>
                  refine wp_region_stages (by kernel_rfl) ?_
                  refine anyOrder_pop rfl (by kernel_rfl) ?_
                  refine anyOrder_start [0, 4, 8, 12] (LeP wo.heap.size #[.string t, .slice none 0 0]) (insP wo.heap.size F Q a t) (FactsOn [.any, .is (.slice A1 m c1), .is (.int .i64 (a : Int)), .is (.slice A1 a c1), .any, .is (.string t), .is (.agg #[.string t, .slice none 0 0]), .oneP wo.heap.size #[.string t, .slice none 0 0], .any, .is (.slice A1 m c1), .is (.int .i64 (a : Int)), .is (.slice (cutA A1 c1 a 2) (m - a) (c1 - a)), .any]) (fun i => 99) leP_trans leP_grow (insP.grow) (factsOn_mono _) (by kernel_rfl) (by kernel_rfl) trivial ?_ ?_
                  · refine ⟨?_, ?_, ?_, ?_, ?_, ?_, ?_, ?_, ?_, ?_, ?_, ?_, ?_, trivial⟩
                    · refine stageOf_mem (t := 0) rfl ?_
                      intro us vals w3 a' ha hle hW hd hv
                      obtain rfl := List.eq_nil_of_length_eq_zero (Nat.le_zero.1 (show vals.length ≤ 0 from Nat.le_of_eq hv))
                      refine ⟨wanted_none rfl, fun K hK => ?_⟩
                      exact step_value (v := .slice (some ⟨w3.heap.size, 0, none⟩) 0 0) (w2 := w3.alloc (.cells #[] 46)) (by go_simp) (hK _ _ (leP_grow _ _ (Grow.alloc _ _)) ⟨World.ownsRow_lit w3 #[] 0 hle.size (by decide) rfl, _, rfl⟩)
                    · refine stageOf_free rfl (fun _ _ _ _ _ _ => wanted_none rfl) ?_
                      intro us vals w3 a' ha hle hW hd hv K hK
                      have q3 : a'.tmps[3]? = some (.slice A1 m c1) := slot_old ha (by kernel_rfl) (by kernel_rfl)
                      exact step_value (w2 := w3) (by go_simp) (hK _ _ (Grow.refl _) rfl)
                    · refine stageOf_free rfl (fun _ _ _ _ _ _ => wanted_none rfl) ?_
                      intro us vals w3 a' ha hle hW hd hv K hK
                      have q7 : a'.tmps[7]? = some (.int .i64 (a : Int)) := slot_old ha (by kernel_rfl) (by kernel_rfl)
                      exact step_value (w2 := w3) (by go_simp) (hK _ _ (Grow.refl _) rfl)
                    · refine stageOf_free rfl (fun _ _ _ _ _ _ => wanted_none rfl) ?_
                      intro us vals w3 a' ha hle hW hd hv K hK
                      obtain ⟨d1, d2, _⟩ := hd
                      have q62 : a'.tmps[62]? = some (us 1) := slot_get ha 1 (by kernel_rfl) (by kernel_rfl)
                      rw [show us 1 = .slice A1 m c1 from d1] at q62
                      have q63 : a'.tmps[63]? = some (us 2) := slot_get ha 2 (by kernel_rfl) (by kernel_rfl)
                      rw [show us 2 = .int .i64 (a : Int) from d2] at q63
                      refine step_value (v := .slice A1 a c1) (w2 := w3) ?_ (hK _ _ (Grow.refl _) rfl)
                      have h9 := run_cut_head postTy A1 m c1 a .i64 (a : Int) rfl Hac.out w3
                      simp only [execOp, Option.map_some, Option.map_none, evalT q62, evalT q63, Sem.run_bind, run_at postTy, h9, Result.andThen_ok, Sem.run_pure]
                    · refine stageOf_mem (t := 1) rfl ?_
                      intro us vals w3 a' ha hle hW hd hv
                      obtain ⟨d0, d3, _⟩ := hd
                      obtain ⟨x0, rfl⟩ := List.length_eq_one_iff.1 hv
                      obtain rfl : us 0 = x0 := by have h0 : some x0 = some (us 0) := d0; injection h0 with h0; exact h0.symm
                      refine ⟨wanted_none rfl, fun K hK => ?_⟩
                      have q61 : a'.tmps[61]? = some (us 0) := slot_get ha 0 (by kernel_rfl) (by kernel_rfl)
                      have q64 : a'.tmps[64]? = some (us 3) := slot_get ha 3 (by kernel_rfl) (by kernel_rfl)
                      rw [show us 3 = .slice A1 a c1 from d3] at q64
                      refine wp_append_two w3 (.tmp 61) (.tmp 64) rfl postTy (evalT q61) hW.1 (evalT q64) (Hhead.out w3 hle) Hone1.out (by have := Hmb.out; simp only [maxLen]; omega) (by have := Hmb.out; omega) hle.size ?_
                      intro v2 w4 ho htw
                      refine hK _ _ (two_P hW.1 ho htw (Or.inl hW.2)) ?_
                      rw [Nat.zero_add, List.nil_append] at ho
                      exact ho
                    · refine stageOf_free rfl (fun _ _ _ _ _ _ => wanted_none rfl) ?_
                      intro us vals w3 a' ha hle hW hd hv K hK
                      have q6 : a'.tmps[6]? = some (.string t) := slot_old ha (by kernel_rfl) (by kernel_rfl)
                      exact step_value (w2 := w3) (by go_simp) (hK _ _ (Grow.refl _) rfl)
                    · refine stageOf_free rfl (fun _ _ _ _ _ _ => wanted_none rfl) ?_
                      intro us vals w3 a' ha hle hW hd hv K hK
                      obtain ⟨d5, _⟩ := hd
                      have q66 : a'.tmps[66]? = some (us 5) := slot_get ha 5 (by kernel_rfl) (by kernel_rfl)
                      rw [show us 5 = .string t from d5] at q66
                      refine step_value (v := .agg #[.string t, .slice none 0 0]) (w2 := w3) ?_ (hK _ _ (Grow.refl _) rfl)
                      go_simp
                    · refine stageOf_free rfl (fun _ _ _ _ _ _ => wanted_none rfl) ?_
                      intro us vals w3 a' ha hle hW hd hv K hK
                      obtain ⟨d6, _⟩ := hd
                      have q67 : a'.tmps[67]? = some (us 6) := slot_get ha 6 (by kernel_rfl) (by kernel_rfl)
                      rw [show us 6 = .agg #[.string t, .slice none 0 0] from d6] at q67
                      refine step_value (v := .slice (some ⟨w3.heap.size, 0, none⟩) 1 1) (w2 := w3.alloc (.cells #[.string t, .slice none 0 0] 46)) (by go_simp) (hK _ _ (Grow.alloc _ _) ?_)
                      exact ⟨_, rfl, Blk.new _ _ _⟩
                    · refine stageOf_mem (t := 2) rfl ?_
                      intro us vals w3 a' ha hle hW hd hv
                      obtain ⟨d4, ⟨m7, u7, b7⟩, _, _⟩ := hd
                      refine ⟨wanted_none rfl, fun K hK => ?_⟩
                      have q65 : a'.tmps[65]? = some (us 4) := slot_get ha 4 (by kernel_rfl) (by kernel_rfl)
                      have q68 : a'.tmps[68]? = some (us 7) := slot_get ha 7 (by kernel_rfl) (by kernel_rfl)
                      rw [u7] at q68
                      obtain ⟨a0, a1, rfl⟩ : ∃ a0 a1, vals = [a0, a1] := by match vals, hv with | [a0, a1], _ => exact ⟨a0, a1, rfl⟩
                      have e1 : a1 = us 4 := by have h0 : some a1 = some (us 4) := d4; injection h0
                      subst e1
                      refine wp_append_two w3 (.tmp 65) (.tmp 68) rfl postTy (evalT q65) hW (evalT q68) (readsBp b7) (by simp [Value.oneCell']) (by have := Hmb.out; simp only [maxLen]; omega) (by have := Hmb.out; omega) hle.size ?_
                      intro v2 w4 ho htw
                      refine hK _ _ (two_P hW ho htw (Or.inr ⟨by omega, fun h => ?_⟩)) ?_
                      · obtain rfl : a = 0 := by omega
                        rfl
                      · exact ho
                    · refine stageOf_free rfl (fun _ _ _ _ _ _ => wanted_none rfl) ?_
                      intro us vals w3 a' ha hle hW hd hv K hK
                      have q3 : a'.tmps[3]? = some (.slice A1 m c1) := slot_old ha (by kernel_rfl) (by kernel_rfl)
                      exact step_value (w2 := w3) (by go_simp) (hK _ _ (Grow.refl _) rfl)
                    · refine stageOf_free rfl (fun _ _ _ _ _ _ => wanted_none rfl) ?_
                      intro us vals w3 a' ha hle hW hd hv K hK
                      have q7 : a'.tmps[7]? = some (.int .i64 (a : Int)) := slot_old ha (by kernel_rfl) (by kernel_rfl)
                      exact step_value (w2 := w3) (by go_simp) (hK _ _ (Grow.refl _) rfl)
                    · refine stageOf_free rfl (fun _ _ _ _ _ _ => wanted_none rfl) ?_
                      intro us vals w3 a' ha hle hW hd hv K hK
                      obtain ⟨d9, d10, _⟩ := hd
                      have q70 : a'.tmps[70]? = some (us 9) := slot_get ha 9 (by kernel_rfl) (by kernel_rfl)
                      rw [show us 9 = .slice A1 m c1 from d9] at q70
                      have q71 : a'.tmps[71]? = some (us 10) := slot_get ha 10 (by kernel_rfl) (by kernel_rfl)
                      rw [show us 10 = .int .i64 (a : Int) from d10] at q71
                      refine step_value (v := .slice (cutA A1 c1 a 2) (m - a) (c1 - a)) (w2 := w3) ?_ (hK _ _ (Grow.refl _) rfl)
                      have h9 := run_cut_tail postTy A1 m c1 a .i64 (a : Int) rfl Ham.out w3
                      simp only [execOp, Option.map_some, Option.map_none, evalT q70, evalT q71, Sem.run_bind, run_at postTy, h9, Result.andThen_ok, Sem.run_pure]
                    · refine stageOf_mem (t := 3) rfl ?_
                      intro us vals w3 a' ha hle hW hd hv
                      obtain ⟨d8, d11, _, _⟩ := hd
                      refine ⟨wanted_none rfl, fun K hK => ?_⟩
                      have q69 : a'.tmps[69]? = some (us 8) := slot_get ha 8 (by kernel_rfl) (by kernel_rfl)
                      have q72 : a'.tmps[72]? = some (us 11) := slot_get ha 11 (by kernel_rfl) (by kernel_rfl)
                      rw [show us 11 = .slice (cutA A1 c1 a 2) (m - a) (c1 - a) from d11] at q72
                      obtain ⟨a0, a1, a2, rfl⟩ : ∃ a0 a1 a2, vals = [a0, a1, a2] := by match vals, hv with | [a0, a1, a2], _ => exact ⟨a0, a1, a2, rfl⟩
                      have e2 : a2 = us 8 := by have h0 : some a2 = some (us 8) := d8; injection h0
                      subst e2
                      refine wp_append_two w3 (.tmp 69) (.tmp 72) rfl postTy (evalT q69) hW (evalT q72) (Htail.out w3 hle) Hone2.out (by have := Hmb.out; have := Ham.out; simp only [maxLen]; omega) (by have := Hmb.out; have := Ham.out; omega) hle.size ?_
                      intro v2 w4 ho htw
                      refine hK _ _ (two_P hW ho htw (Or.inr ⟨by omega, fun h => ?_⟩)) ?_
                      · have h9 := Ham.out
                        have h8 := Hm.out
                        obtain rfl : Q = [] := List.eq_nil_of_length_eq_zero (by omega)
                        obtain rfl : a = 0 := by omega
                        rfl
                      · have h9 := Ham.out
                        have h8 : a + 1 + (m - a) = Q.length + 1 := by have := Hm.out; omega
                        rw [h8] at ho
                        exact ho
                  · intro us vals w5 hle hvl hW ht hf
                    have e3 := ht 3 (by rw [hvl]; decide)
                    obtain ⟨q0, q1, q2, q3, rfl⟩ : ∃ q0 q1 q2 q3, vals = [q0, q1, q2, q3] := by match vals, hvl with | [q0, q1, q2, q3], _ => exact ⟨q0, q1, q2, q3, rfl⟩
                    have e4 : q3 = us 12 := by injection e3
                    subst e4
                    have hrow : w5.ownsRow wo.heap.size 46 2 (us 12) (Q.length + 1) (poC F (Q.take a) ++ [.string t, .slice none 0 0] ++ poC F (Q.drop a)) := hW
                    rw [← Hm.out] at hrow
                    obtain ⟨A5, c5, e5, -, -, -⟩ := own_reads hrow
                    have Hown5 : Hid (w5.ownsRow wo.heap.size 46 2 (.slice A5 (m + 1) c5) (m + 1) (poC F (Q.take a) ++ [.string t, .slice none 0 0] ++ poC F (Q.drop a))) := by rw [e5] at hrow; exact hrow
                    have Hg5 : Hid (Grow wo w5) := hle.low (Nat.le_refl _)
                    refine lastQ.assign (v := us 12) (s := 73) rfl (by kernel_rfl) ?_
                    exact hMx _ _ (Met.intro (hJx _ _ ⟨us 12, us 0, us 1, us 2, us 3, us 4, us 5, us 6, us 7, us 8, us 9, us 10, us 11, us 12, ⟨A5, m + 1, c5, e5, rfl, Hown5, Hg5⟩, by kernel_rfl⟩))
                case rest =>
                  obtain ⟨A5, m5, c5, rfl, hm5e, hown5, hg5⟩ := hcut
                  obtain ⟨W1, hW1⟩ : ∃ W1 : World, W1 = wc := ⟨_, rfl⟩
                  rw [← hW1] at hown5 hg5 ⊢
                  clear hW1
                  have hgW : Below ws.heap.size ws W1 := Below.trans hg.out (Below.mono hg5.out hg.out.size)
                  have hlen1 : m5 = Q.length + 1 := by rw [hm5e, Hm.out]
                  have hRP0 := hR.out.ins (k := a) (W' := W1) (u' := .slice A5 m5 c5) Hnm.out (Keep.grow hg5.out) (by
                    have h := own_base hown5.out hg.out.size
                    rw [Ht.out] at h
                    rw [hlen1] at h ⊢
                    exact h)
                  have Hq0 := Lib.hid (show Q.take a ++ g :: Q.drop a = insAllG (gs.take (i + 1)) by
                    rw [Hins.out]
                    exact (insG_at (by rw [← Hm.out]; exact ha) hlo.out Hgt.out).symm)
                  have hnd := up_nodup (insAllG_up (gs.take (i + 1)))
                  have hnt : g ∉ gs.take i := fun h => Hnm.out ((Hmem.out g).2 h)
                  obtain ⟨Q1, hQ1e⟩ : ∃ Q1, Q1 = Q.take a ++ g :: Q.drop a := ⟨_, rfl⟩
                  obtain ⟨F1, hF1e⟩ : ∃ F1 : Gr → Value, F1 = updG F g (.slice none 0 0) := ⟨_, rfl⟩
                  obtain ⟨f1, hf1e⟩ : ∃ f1 : Gr → List Nat, f1 = updG (fun g => posOf gs g i) g [] := ⟨_, rfl⟩
                  have hQ1 : Q1[a]? = some g := by
                    have hta : (Q.take a).length = a := by rw [List.length_take]; have := Hm.out; omega
                    rw [hQ1e, List.getElem?_append_right (by omega), hta, Nat.sub_self]
                    rfl
                  have Hfs := Lib.hid (show posOf gs g (i + 1) = f1 g ++ [i] by rw [hf1e, updG_self, posOf_more Hgi.out, posOf_none hnt])
                  have Hfo := Lib.hid (show ∀ h ∈ Q1, h ≠ g → f1 h = posOf gs h (i + 1) from fun h _ hne => by rw [hf1e, updG_ne _ _ hne]; exact (posOf_other Hgi.out hne).symm)
                  have Hfl := Lib.hid (show (f1 g).length ≤ 1000000 by rw [hf1e, updG_self]; exact Nat.zero_le _)
                  rw [← hQ1e] at Hq0 hRP0
                  rw [← Hq0.out] at hnd
                  have Hq := Hq0
                  have hm5 : m5 = Q1.length := by
                    rw [hlen1, hQ1e]
                    have := congrArg List.length (List.take_append_drop a Q)
                    simp only [List.length_append, List.length_cons] at this ⊢
                    omega
                  have hRP := hRP0
                  rw [← hF1e, ← hf1e] at hRP
                  have hm5s : m5 ≤ 1000001 := by omega
                  clear hRP0 hlen1 hnt hQ1e hF1e hf1e Hq0 hown5 hg5 hm5e Hone1 Hone2 Htail Hhead Hac Ham hmb Hmb
                  have hm5a : a < m5 := by rw [hm5]; exact (List.getElem?_eq_some_iff.1 hQ1).1
                  obtain ⟨bb, cc, e5, -, hbbz, -, -⟩ := own_slice (show W1.ownsRow ws.heap.size 46 2 (.slice A5 m5 c5) m5 (poC F1 Q1) by rw [hm5]; rw [hm5] at hRP; exact hRP.row) (by omega)
                  injection e5 with e5 e6 e7
                  subst e5 e7
                  have hcp : W1.cell? ⟨bb, a * 2 + 1, none⟩ = some (F1 g) := by
                    have h := hRP.row
                    rw [← hm5] at h
                    rw [h.cellAt (a * 2 + 1) (by omega)]
                    exact (poC_at hQ1).2
                  have hfp : W1.frozen? ⟨bb, a * 2 + 1, none⟩ = false := by
                    have h := hRP.row
                    rw [← hm5] at h
                    exact h.frozenAt _
                  obtain ⟨A6, c6, e8, -, -, -⟩ := own_reads (hRP.own g (List.mem_of_getElem? hQ1))
                  obtain ⟨n6, hn6⟩ : ∃ n6, n6 = (f1 g).length := ⟨_, rfl⟩
                  have hn6b : n6 ≤ 1000000 := by rw [hn6]; exact Hfl.out
                  rw [← hn6] at e8
                  rw [e8] at hcp
                  obtain ⟨W2, hW2⟩ : ∃ W2, W1.alloc (.cells #[.int .i64 0, .int .i64 (i : Int)] 33) = W2 := ⟨_, rfl⟩
                  have hg12 : Grow W1 W2 := by rw [← hW2]; exact Grow.alloc _ _
                  have hrd2 : ReadsAt W2 (W1.heap.size + 1) 2 (some ⟨W1.heap.size, 0, none⟩) 1 [.int .i64 0, .int .i64 (i : Int)] := by rw [← hW2]; exact readsP W1 33 2 _ rfl
                  have hRP2 := hRP.grow hg12
                  have ho2 := hRP2.own g (List.mem_of_getElem? hQ1)
                  have hbz2 : ws.heap.size ≤ W2.heap.size := Nat.le_trans hgW.size hg12.size
                  rw [e8, ← hn6] at ho2
                  have Hhat := Lib.hid (show ∀ v' W3, W2.grownBy W3 (Value.slice A6 n6 c6).ownBlock → W3.ownsRow ws.heap.size 33 2 v' (n6 + 1) (plC (f1 g) ++ [.int .i64 0, .int .i64 (i : Int)]) → (v'.ownBlock = (Value.slice A6 n6 c6).ownBlock ∨ v'.ownBlock = some W2.heap.size) →
                      W3.cell? ⟨bb, a * 2 + 1, none⟩ = some (.slice A6 n6 c6) ∧ W3.frozen? ⟨bb, a * 2 + 1, none⟩ = false ∧ RP (W3.setCell ⟨bb, a * 2 + 1, none⟩ v') ws.heap.size (.slice (some ⟨bb, 0, none⟩) m5 c5) (insAllG (gs.take (i + 1))) (fun h => posOf gs h (i + 1)) (updG F1 g v') ∧ Below ws.heap.size ws (W3.setCell ⟨bb, a * 2 + 1, none⟩ v') from fun v' W3 hgr hown hat => by
                    have hk : Keep (fun j => (F1 g).ownBlock = some j) W2 W3 := by rw [e8]; exact Keep.grown hgr
                    have hp := hRP2.put hnd hQ1 (v := v') (l := f1 g ++ [i]) hk (by rw [List.length_append, ← hn6, plC_snoc]; exact hown) (by rw [e8]; exact hat) rfl
                    have hrow3 : W3.ownsRow ws.heap.size 46 2 (.slice (some ⟨bb, 0, none⟩) m5 c5) Q1.length (poC F1 Q1) := hk.own hRP2.row fun x h1 h2 => absurd (own_types hRP2.row (hRP2.own g (List.mem_of_getElem? hQ1)) h1 h2) (by decide)
                    rw [← hm5] at hrow3
                    refine ⟨?_, hrow3.frozenAt _, ?_, ?_⟩
                    · rw [hrow3.cellAt (a * 2 + 1) (by omega), (poC_at hQ1).2, e8]
                    · rw [← Hq.out]
                      exact hp.congr fun h hh => by
                        by_cases e : h = g
                        · subst e
                          rw [updG_self]
                          exact (Hfs.out).symm
                        · rw [updG_ne _ _ e]
                          exact Hfo.out h hh e
                    · refine Below.setCell (Below.trans hgW (Below.trans (Below.mono hg12 hgW.size) ((Keep.grown hgr).below (fun j hj => (ho2.lt j hj).1) hbz2))) ?_ _
                      exact (hRP.row.lt bb rfl).1)
                  clear hRP hRP2 hQ1 hnd hg12 hn6 hm5 e8 hcDo
                  go_wp2_with (first | (rw [hW2]; clear hW2) | (at_builtin; (refine wpList_append_reads _ rfl (.tmp 80) (.tmp 84) rfl placeTy rfl ho2 rfl hrd2 (by simp [Value.oneCell']) (by simp only [maxLen]; omega) (by omega) hbz2 ?_; intro v' W3 hown3 hgr3 hat3; obtain ⟨A8, c8, rfl, -, -, -⟩ := own_reads hown3; obtain ⟨hc3, hf3, hp3, hl3⟩ := Hhat.out _ W3 hgr3 hown3 hat3; have Hp3 := Lib.hid hp3; have Hl3 := Lib.hid hl3; clear hown3 hgr3 hat3 hp3 hl3)))
                  go_roundw
                  case rel => exact ⟨i + 1, _, _, by omega, rfl, by go_num, Hp3.out, Hl3.out⟩
                  case measure => simp [intOf]; omega
        · have d1 : decide ((i : Int) + 3 ≤ (n : Int)) = false := decide_eq_false (by have := HNn.out; omega)
          obtain rfl : i = N := by omega
          have HR2 := Lib.hid (show RP wo ws.heap.size u (insAllG gs) (fun g => posOf gs g gs.length) F by
            have h := hR.out
            rw [HN.out, List.take_length] at h
            exact h)
          clear hR
          go_wp2_with fail
          go_roundw
          case rel => exact Or.inr ⟨u, F, rfl, by go_num, hg, HR2⟩
          case measure => simp [intOf]
    · obtain ⟨A1, c1, rfl, -, -, -⟩ := own_reads hRE.out.row
      go_wp2_with fail
      go_ret
      exact ⟨_, _, rfl, hgE.out, hRE.out⟩
end Go.Proofs.Ytamdejidkgnaeaa
