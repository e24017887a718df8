/-
  The walks of the document's Places and Grams. (printed by gen/gramref.py)
-/
import Derived.Deep.CutBlock
import Derived.Deep.CutRange
import Derived.Deep.DeepCutAuto
import Derived.Test.YtfjnjlcmikhehaaGreatGramRP
import Derived.Test.YtfjnjlcmikhehaaGreatGramRef
import Derived.Test.YtfjnjlcmikhehaaGreatGramHas
namespace Go.Proofs.YtfjnjlcmikhehaaGreat
open Go.RowKit Go.Shelf GramM
set_option linter.unusedVariables false
/-- what the document's Places tells -/
def RPostsTo (w : World) (gs : List Gr) (e : Ending) (w' : World) : Prop := ∃ u F, e = .returned u ∧ Grow w w' ∧ RP w' w.heap.size u (sortG (firsts [] gs)) (fun g => posOf gs g gs.length) F
set_option maxRecDepth 100000 in
set_option maxHeartbeats 4000000 in
theorem rgPlaces_any (w : World) (B : Nat) (A : Option Addr) (n c : Nat) (b : List UInt8) (hb : BytesAt w B A n b) (hB : B ≤ w.heap.size) (hnc : n ≤ c) (hn : n ≤ 1000000) :
    Calls Tryz.prog 13 #[.slice A n c] w (RPostsTo w (grams b)) := by
  have postTy : AppTy Tryz.prog 28 42 (.agg #[.string .empty, .slice none 0 0]) 2 40 := AppTy.mk' Tryz.underlying28 (by kernel_rfl) rfl (by decide)
  have placeTy : AppTy Tryz.prog 40 44 (.agg #[.int .i64 0, .int .i64 0]) 2 16 := AppTy.mk' Tryz.underlying40 (by kernel_rfl) rfl (by decide)
  have Hlen := Lib.hid (show (grams b).length = n - 2 by rw [grams_len, hb.len])
  have Hof := Lib.hid (fun (i : Nat) (g : Gr) (h : (grams b)[i]? = some g) => grams_of h)
  have Hb := Lib.hid hb
  obtain ⟨gs, hgs⟩ : ∃ gs, gs = grams b := ⟨_, rfl⟩
  rw [← hgs] at Hlen Hof ⊢
  obtain ⟨N, hN⟩ : ∃ N, N = gs.length := ⟨_, rfl⟩
  have hNn : N = n - 2 := by rw [hN]; exact Hlen.out
  have hNs : N ≤ n := by omega
  have HN := Lib.hid hN
  have HNn := Lib.hid hNn
  clear hgs hb hN hNn
  go_enter Tryz.func13, Tryz.ntmps13
  go_wp2_with fail
  go_loopw [3, 4] (fun v3 v4 wr => ∃ (i : Nat) (u : Value) (F : Gr → Value), i ≤ N ∧ u = v3 ∧ v4 = .int .i64 (i : Int) ∧ Hid (RP wr w.heap.size u (insAllG (gs.take i)) (fun g => posOf gs g i) F) ∧ Hid (Below w.heap.size w wr)) (fun _ v4 _ => N - (intOf v4).toNat)
  case atStart => exact ⟨0, _, fun _ => .slice none 0 0, by omega, rfl, rfl, RP.nil _ _ _ _, Below.refl _ _⟩
  case round =>
    obtain ⟨i, u, F, hi, rfl, rfl, hR, hg⟩ := hrel
    obtain ⟨wo, rfl⟩ : ∃ wo : World, wo = wr := ⟨_, rfl⟩
    by_cases hlt : i < N
    · have hi3 : i + 3 ≤ n := by have := HNn.out; omega
      have d1 : decide ((i : Int) + 3 ≤ (n : Int)) = true := decide_eq_true (by omega)
      obtain ⟨g, hgi⟩ : ∃ g, gs[i]? = some g := ⟨_, List.getElem?_eq_getElem (by rw [← HN.out]; exact hlt)⟩
      obtain ⟨b0, off, rfl, hb0, hcs⟩ := (Hb.out.below (Below.mono hg.out hB)).at_ (by omega)
      obtain ⟨g1, g2, g3⟩ := Hof.out i g hgi
      have hcv := conv3 wo b0 (off + i) (c - i) g.1 g.2.1 g.2.2 (hcs i _ g1) (by rw [Nat.add_assoc]; exact hcs _ _ g2) (by rw [Nat.add_assoc]; exact hcs _ _ g3)
      obtain ⟨t, ht⟩ : ∃ t, t = grS g := ⟨_, rfl⟩
      rw [show (⟨#[g.1, g.2.1, g.2.2]⟩ : ByteArray) = t from ht.symm] at hcv
      have Ht := Lib.hid ht
      have Hgi := Lib.hid hgi
      have Hins := Lib.hid (show insAllG (gs.take (i + 1)) = insG (insAllG (gs.take i)) g by rw [List.take_add_one, hgi]; exact insAllG_snoc _ _)
      have Hup := Lib.hid (insAllG_up (gs.take i))
      have Hmem := Lib.hid (show ∀ h, h ∈ insAllG (gs.take i) ↔ h ∈ gs.take i from fun h => mem_insAllG)
      have HQl := Lib.hid (show (insAllG (gs.take i)).length ≤ i from Nat.le_trans (insAllG_len _) (List.length_take_le _ _))
      obtain ⟨Q, hQ⟩ : ∃ Q, Q = insAllG (gs.take i) := ⟨_, rfl⟩
      rw [← hQ] at hR Hins Hup Hmem HQl
      obtain ⟨A1, c1, rfl, h11, h12, h13⟩ := own_reads hR.out.row
      obtain ⟨m, hm⟩ : ∃ m, m = Q.length := ⟨_, rfl⟩
      rw [← hm] at hR h11 h13 HQl ⊢
      have Hm := Lib.hid hm
      have hmi : m ≤ i := HQl.out
      have H13 := Lib.hid h13
      have Hone := Lib.hid hR.out.one
      have H11 := Lib.hid h11
      clear hcs g1 g2 g3 ht hgi hQ hm h13 h11
      go_upto_block 2 with (fail)
      go_cut [6] from 21 to 35 (fun v6 wx => ∃ a : Nat, a ≤ m ∧ v6 = .int .i64 (a : Int) ∧ Hid (∀ j y, j < a → Q[j]? = some y → numG y < numG g) ∧ Hid (∀ y, Q[a]? = some y → ¬ numG y < numG g) ∧ wo = wx)
      case first Jx Kx hJx hMx =>
        clear hcv
        go_wp2_with fail
        go_loopw [6] (fun v6 wr => ∃ a : Nat, a ≤ m ∧ v6 = .int .i64 (a : Int) ∧ Hid (∀ j y, j < a → Q[j]? = some y → numG y < numG g) ∧ wo = wr) (fun v6 _ => m - (intOf v6).toNat)
        case atStart => exact ⟨0, by omega, rfl, fun j y h => by omega, rfl⟩
        case round =>
          obtain ⟨a, ha, rfl, hlo, rfl⟩ := hrel
          by_cases ham : a < m
          · have d3 : decide ((a : Int) < (m : Int)) = true := decide_eq_true (by omega)
            obtain ⟨y, hy⟩ : ∃ y, Q[a]? = some y := ⟨_, List.getElem?_eq_getElem (by rw [← Hm.out]; exact ham)⟩
            obtain ⟨bb, oo, rfl, hbb, hcs⟩ := H13.out.2 (by omega)
            have hcl : wo.cell? ⟨bb, oo + a * 2, none⟩ = some (.string (grS y)) := hcs _ _ (poC_at hy).1
            have Hy := Lib.hid hy
            clear hy hcs
            by_cases hyx : numG y < numG g
            · have hls : Op.bytesLess (grS y).toList t.toList = true := by rw [Ht.out]; exact less_text hyx
              have Hlo2 := Lib.hid (show ∀ j z, j < a + 1 → Q[j]? = some z → numG z < numG g from fun j z hj hz => by
                by_cases e : j = a
                · subst e
                  rw [Hy.out] at hz
                  rw [← Option.some.inj hz]
                  exact hyx
                · exact hlo.out j z (by omega) hz)
              go_wp2_with fail
              go_roundw
              case rel => exact ⟨a + 1, by omega, by go_num, Hlo2, by first | trivial | rfl⟩
              case measure => simp [intOf]; omega
            · have hls : Op.bytesLess (grS y).toList t.toList = false := by rw [Ht.out]; exact not_less_text hyx
              have Hge := Lib.hid (show ∀ z, Q[a]? = some z → ¬ numG z < numG g from fun z hz => by
                rw [Hy.out] at hz
                rw [← Option.some.inj hz]
                exact hyx)
              clear hyx
              go_wp2_with fail
              (try simp only [Act.put])
              go_meet
              case rel => exact ⟨a, ha, rfl, hlo, Hge, by first | trivial | rfl⟩
          · have d3 : decide ((a : Int) < (m : Int)) = false := decide_eq_false (by omega)
            have Hge := Lib.hid (show ∀ z, Q[a]? = some z → ¬ numG z < numG g from fun z hz => by
              have := (List.getElem?_eq_some_iff.1 hz).1
              have := Hm.out
              omega)
            go_wp2_with fail
            (try simp only [Act.put])
            go_meet
            case rel => exact ⟨a, ha, rfl, hlo, Hge, by first | trivial | rfl⟩
      case rest =>
        obtain ⟨a, ha, rfl, hlo, hge, rfl⟩ := hcut
        clear hcv
        by_cases hfound : Q[a]? = some g
        · have ham : a < m := by rw [Hm.out]; exact (List.getElem?_eq_some_iff.1 hfound).1
          have d5 : ((a : Int) == (m : Int)) = false := by rw [beq_eq_false_iff_ne]; omega
          obtain ⟨b1, o1, rfl, hb1, hcs⟩ := H13.out.2 (by omega)
          have hcl : wo.cell? ⟨b1, o1 + a * 2, none⟩ = some (.string t) := by
            rw [Ht.out]
            exact hcs _ _ (poC_at hfound).1
          have hne := str_eq t
          have Hfd := Lib.hid hfound
          clear hfound hge
          go_upto_region 12 with (fail)
          have hRP := hR.out
          have Hq := Lib.hid (show Q = insAllG (gs.take (i + 1)) by rw [Hins.out]; exact (insG_there hlo.out Hfd.out).symm)
          have hnd := up_nodup Hup.out
          have hQ1 := Hfd.out
          have hgW := hg.out
          obtain ⟨Q1, hQ1e⟩ : ∃ Q1, Q1 = Q := ⟨_, rfl⟩
          obtain ⟨F1, hF1e⟩ : ∃ F1, F1 = F := ⟨_, rfl⟩
          obtain ⟨f1, hf1e⟩ : ∃ f1 : Gr → List Nat, f1 = fun g => posOf gs g i := ⟨_, rfl⟩
          obtain ⟨m5, hm5e⟩ : ∃ m5, m5 = m := ⟨_, rfl⟩
          have Hfs := Lib.hid (show posOf gs g (i + 1) = f1 g ++ [i] by rw [hf1e]; exact posOf_more Hgi.out)
          have Hfo := Lib.hid (show ∀ h ∈ Q1, h ≠ g → f1 h = posOf gs h (i + 1) from fun h _ hne => by rw [hf1e]; exact (posOf_other Hgi.out hne).symm)
          have Hfl := Lib.hid (show (f1 g).length ≤ 1000000 by
            rw [hf1e]
            have := posOf_len gs g i
            exact Nat.le_trans this (by omega))
          have hm5 : m5 = Q1.length := by rw [hm5e, hQ1e]; exact Hm.out
          obtain ⟨A5, hA5⟩ : ∃ A5 : Option Addr, A5 = some ⟨b1, o1, none⟩ := ⟨_, rfl⟩
          obtain ⟨c5, hc5⟩ : ∃ c5, c5 = c1 := ⟨_, rfl⟩
          rw [← hQ1e] at Hq hRP hQ1 hnd
          rw [← hF1e, ← hf1e, ← hm5e, ← hA5, ← hc5] at hRP
          rw [← hm5e, ← hA5, ← hc5]
          obtain ⟨W1, hW1⟩ : ∃ W1, W1 = wo := ⟨_, rfl⟩
          rw [← hW1] at hRP hgW ⊢
          have hm5s : m5 ≤ 1000001 := by omega
          clear hcl hne hA5 hc5 hW1 hQ1e hF1e hf1e hm5e hcs d5 hlo Hfd
          have hm5a : a < m5 := by rw [hm5]; exact (List.getElem?_eq_some_iff.1 hQ1).1
          obtain ⟨bb, cc, e5, -, hbbz, -, -⟩ := own_slice (show W1.ownsRow w.heap.size 42 2 (.slice A5 m5 c5) m5 (poC F1 Q1) by rw [hm5]; rw [hm5] at hRP; exact hRP.row) (by omega)
          injection e5 with e5 e6 e7
          subst e5 e7
          have hcp : W1.cell? ⟨bb, a * 2 + 1, none⟩ = some (F1 g) := by
            have h := hRP.row
            rw [← hm5] at h
            rw [h.cellAt (a * 2 + 1) (by omega)]
            exact (poC_at hQ1).2
          have hfp : W1.frozen? ⟨bb, a * 2 + 1, none⟩ = false := by
            have h := hRP.row
            rw [← hm5] at h
            exact h.frozenAt _
          obtain ⟨A6, c6, e8, -, -, -⟩ := own_reads (hRP.own g (List.mem_of_getElem? hQ1))
          obtain ⟨n6, hn6⟩ : ∃ n6, n6 = (f1 g).length := ⟨_, rfl⟩
          have hn6b : n6 ≤ 1000000 := by rw [hn6]; exact Hfl.out
          rw [← hn6] at e8
          rw [e8] at hcp
          obtain ⟨W2, hW2⟩ : ∃ W2, W1.alloc (.cells #[.int .i64 0, .int .i64 (i : Int)] 44) = W2 := ⟨_, rfl⟩
          have hg12 : Grow W1 W2 := by rw [← hW2]; exact Grow.alloc _ _
          have hrd2 : ReadsAt W2 (W1.heap.size + 1) 2 (some ⟨W1.heap.size, 0, none⟩) 1 [.int .i64 0, .int .i64 (i : Int)] := by rw [← hW2]; exact readsP W1 44 2 _ rfl
          have hRP2 := hRP.grow hg12
          have ho2 := hRP2.own g (List.mem_of_getElem? hQ1)
          have hbz2 : w.heap.size ≤ W2.heap.size := Nat.le_trans hgW.size hg12.size
          rw [e8, ← hn6] at ho2
          have Hhat := Lib.hid (show ∀ v' W3, W2.grownBy W3 (Value.slice A6 n6 c6).ownBlock → W3.ownsRow w.heap.size 44 2 v' (n6 + 1) (plC (f1 g) ++ [.int .i64 0, .int .i64 (i : Int)]) → (v'.ownBlock = (Value.slice A6 n6 c6).ownBlock ∨ v'.ownBlock = some W2.heap.size) →
              W3.cell? ⟨bb, a * 2 + 1, none⟩ = some (.slice A6 n6 c6) ∧ W3.frozen? ⟨bb, a * 2 + 1, none⟩ = false ∧ RP (W3.setCell ⟨bb, a * 2 + 1, none⟩ v') w.heap.size (.slice (some ⟨bb, 0, none⟩) m5 c5) (insAllG (gs.take (i + 1))) (fun h => posOf gs h (i + 1)) (updG F1 g v') ∧ Below w.heap.size w (W3.setCell ⟨bb, a * 2 + 1, none⟩ v') from fun v' W3 hgr hown hat => by
            have hk : Keep (fun j => (F1 g).ownBlock = some j) W2 W3 := by rw [e8]; exact Keep.grown hgr
            have hp := hRP2.put hnd hQ1 (v := v') (l := f1 g ++ [i]) hk (by rw [List.length_append, ← hn6, plC_snoc]; exact hown) (by rw [e8]; exact hat) rfl
            have hrow3 : W3.ownsRow w.heap.size 42 2 (.slice (some ⟨bb, 0, none⟩) m5 c5) Q1.length (poC F1 Q1) := hk.own hRP2.row fun x h1 h2 => absurd (own_types hRP2.row (hRP2.own g (List.mem_of_getElem? hQ1)) h1 h2) (by decide)
            rw [← hm5] at hrow3
            refine ⟨?_, hrow3.frozenAt _, ?_, ?_⟩
            · rw [hrow3.cellAt (a * 2 + 1) (by omega), (poC_at hQ1).2, e8]
            · rw [← Hq.out]
              exact hp.congr fun h hh => by
                by_cases e : h = g
                · subst e
                  rw [updG_self]
                  exact (Hfs.out).symm
                · rw [updG_ne _ _ e]
                  exact Hfo.out h hh e
            · refine Below.setCell (Below.trans hgW (Below.trans (Below.mono hg12 hgW.size) ((Keep.grown hgr).below (fun j hj => (ho2.lt j hj).1) hbz2))) ?_ _
              exact (hRP.row.lt bb rfl).1)
          clear hRP hRP2 hQ1 hnd hg12 hn6 hm5 e8
          go_wp2_with (first | (rw [hW2]; clear hW2) | (at_builtin; (refine wpList_append_reads _ rfl (.tmp 69) (.tmp 72) rfl placeTy rfl ho2 rfl hrd2 (by simp [Value.oneCell']) (by simp only [maxLen]; omega) (by omega) hbz2 ?_; intro v' W3 hown3 hgr3 hat3; obtain ⟨A8, c8, rfl, -, -, -⟩ := own_reads hown3; obtain ⟨hc3, hf3, hp3, hl3⟩ := Hhat.out _ W3 hgr3 hown3 hat3; have Hp3 := Lib.hid hp3; have Hl3 := Lib.hid hl3; clear hown3 hgr3 hat3 hp3 hl3)))
          go_roundw
          case rel => exact ⟨i + 1, _, _, by omega, rfl, by go_num, Hp3.out, Hl3.out⟩
          case measure => simp [intOf]; omega
        · have Hgt := Lib.hid (show ∀ y, Q[a]? = some y → numG g < numG y from fun y hy => by
            have h1 := hge.out y hy
            have h2 : numG y ≠ numG g := fun e => hfound (by rw [hy, numG_inj e])
            omega)
          have Hnm := Lib.hid (not_in_up Hup.out hlo.out Hgt.out)
          have Hfn := Lib.hid hfound
          clear hge hfound
          by_cases ham : a < m
          · have d5 : ((a : Int) == (m : Int)) = false := by rw [beq_eq_false_iff_ne]; omega
            obtain ⟨y, hy⟩ : ∃ y, Q[a]? = some y := ⟨_, List.getElem?_eq_getElem (by rw [← Hm.out]; exact ham)⟩
            obtain ⟨b1, o1, hA1, hb1, hcs⟩ := H13.out.2 (by omega)
            have hcl : wo.cell? ⟨b1, o1 + a * 2, none⟩ = some (.string (grS y)) := hcs _ _ (poC_at hy).1
            have hne : ((grS y).toList == t.toList) = false := by
              rw [Ht.out]
              exact str_ne fun e => Hfn.out (by rw [hy, grS_inj e])
            clear hy hcs
            subst hA1
            go_upto_region 10 with (fail)
            obtain ⟨A1, hA1⟩ : ∃ A : Option Addr, A = some ⟨b1, o1, none⟩ := ⟨_, rfl⟩
            rw [← hA1] at hR H13 ⊢
            clear hA1 hcl hne hb1 d5 ham
            have hcut1 := fun W => run_cut_tail postTy A1 m c1 a .i64 (a : Int) rfl ha W
            have hcut2 := fun W => run_cut_head postTy A1 m c1 a .i64 (a : Int) rfl (Nat.le_trans ha H11.out) W
            obtain ⟨wz, hwz⟩ : ∃ wz, wo.alloc (.cells #[] 42) = wz := ⟨_, rfl⟩
            have hgz0 : Grow wo wz := by rw [← hwz]; exact Grow.alloc _ _
            have Hown0 := Lib.hid (show wz.ownsRow wo.heap.size 42 2 (.slice (some ⟨wo.heap.size, 0, none⟩) 0 0) 0 [] by rw [← hwz]; exact World.ownsRow_lit wo #[] 0 (Nat.le_refl _) (by decide) rfl)
            have Hrd0 := Lib.hid (show ReadsAt wz wo.heap.size 2 (cutA A1 c1 a 2) (m - a) (poC F (Q.drop a)) by
              have h := (H13.out.tail a ha H11.out).below hgz0
              rw [poC_drop] at h
              exact h)
            have Hon0 := Lib.hid (show ∀ u ∈ poC F (Q.drop a), u.oneCell' = true from fun u hu => Hone.out u (by rw [← poC_drop] at hu; exact List.mem_of_mem_drop hu))
            have hgwo := hg.out.size
            have hzz0 : wo.heap.size ≤ wz.heap.size := hgz0.size
            have Hgz0 := Lib.hid hgz0
            clear hgz0
            have hmi1 : m ≤ 1000000 := by omega
            have Hub := Lib.hid (show ∀ j, (Value.slice A1 m c1).ownBlock = some j → w.heap.size ≤ j ∧ j < wo.heap.size from hR.out.row.lt)
            have Hop := Lib.hid (show wo.ownsRow w.heap.size 42 2 (.slice A1 a c1) a (poC F (Q.take a)) by
              have h := hR.out.row
              rw [← Hm.out] at h
              have h2 := own_pre h ha
              rw [poC_take] at h2
              exact h2)
            have Hab := Lib.hid (show ∀ k, (Value.slice A1 k c1).ownBlock = (Value.slice A1 m c1).ownBlock from fun k => by cases A1 <;> rfl)
            go_upto_region 12 with (first | (rw [hwz]; clear hwz) | (at_builtin; refine wpList_append_reads _ rfl (.tmp 49) (.tmp 52) rfl postTy rfl Hown0.out rfl Hrd0.out Hon0.out (by simp only [maxLen]; omega) (by omega) hzz0 ?_; intro v53 W2 hown53 hgr53 hat53; clear hat53; rw [Nat.zero_add, List.nil_append] at hown53; obtain ⟨A7, c7, rfl, -, -, -⟩ := own_reads hown53; have Hown53 := Lib.hid hown53; have Hgr53 := Lib.hid (show Grow wo W2 from Below.trans Hgz0.out ((Keep.grown hgr53).below (fun j hj => by injection hj with hj; rw [← hj]; exact Nat.le_refl _) hzz0)); clear hown53 hgr53; obtain ⟨W3, hW3⟩ : ∃ W3, W2.alloc (.cells #[.string t, .slice none 0 0] 42) = W3 := ⟨_, rfl⟩; have Hg23 := Lib.hid (show Grow W2 W3 by rw [← hW3]; exact Grow.alloc _ _); have Hrd3 := Lib.hid (show ReadsAt W3 (W2.heap.size + 1) 2 (some ⟨W2.heap.size, 0, none⟩) 1 [.string t, .slice none 0 0] by rw [← hW3]; exact readsP W2 42 2 _ rfl); have Hop3 := Lib.hid (own_below Hop.out (Below.trans Hgr53.out (Below.mono Hg23.out Hgr53.out.size))); have hz3 : w.heap.size ≤ W3.heap.size := (Nat.le_trans hgwo (Nat.le_trans Hgr53.out.size Hg23.out.size))) | (rw [hW3]; clear hW3) | (at_builtin; refine wpList_append_reads (v := .slice A1 a c1) _ rfl (.tmp 56) (.tmp 59) rfl postTy rfl Hop3.out rfl Hrd3.out (by simp [Value.oneCell']) (by simp only [maxLen]; omega) (by omega) hz3 ?_; intro v60 W4 hown60 hgr60 hat60; have Hk60 := Lib.hid (show Keep (fun j => (Value.slice A1 m c1).ownBlock = some j) W3 W4 by rw [← Hab.out a]; exact Keep.grown hgr60); have Hat60 := Lib.hid hat60; have hown53b : W4.ownsRow wo.heap.size 42 2 (.slice A7 (m - a) c7) (m - a) (poC F (Q.drop a)) := Hk60.out.own (own_below Hown53.out Hg23.out) (fun j h1 h2 => Nat.lt_irrefl _ (Nat.lt_of_lt_of_le (Hub.out j h2).2 (Hown53.out.lt j h1).1)); obtain ⟨A8, c8, e8, -, -, hrd8⟩ := own_reads hown53b; injection e8 with e8 _ e9; subst e8 e9; have Hrd8 := Lib.hid hrd8; obtain ⟨A9, c9, rfl, -, -, -⟩ := own_reads hown60; have Hown60 := Lib.hid hown60; have hz4 : w.heap.size ≤ W4.heap.size := Nat.le_trans hz3 Hk60.out.size; clear hown60 hgr60 hat60 hown53b hrd8) | (at_builtin; refine wpList_append_reads (v := .slice A9 (a + 1) c9) _ rfl (.tmp 60) (.tmp 61) rfl postTy rfl Hown60.out rfl Hrd8.out Hon0.out (by simp only [maxLen]; omega) (by omega) hz4 ?_; intro v62 W1 hown62 hgr62 hat62; clear hat62; obtain ⟨A5, c5, rfl, -, -, -⟩ := own_reads hown62; have Hown62 := Lib.hid hown62; have Hk62 := Lib.hid (Keep.grown hgr62); clear hown62 hgr62) | fail)
            have hKo : Keep (fun j => (Value.slice A1 m c1).ownBlock = some j) wo W1 := ((Keep.grow (Below.trans Hgr53.out (Below.mono Hg23.out Hgr53.out.size))).trans' Hk60.out).trans Hk62.out fun j hj => by
              rcases Hat60.out with h | h
              · exact Or.inl (by rw [← Hab.out a, ← h]; exact hj)
              · rw [h] at hj
                injection hj with hj
                exact Or.inr (by rw [← hj]; exact Nat.le_trans Hgr53.out.size Hg23.out.size)
            have hlen1 : a + 1 + (m - a) = Q.length + 1 := by have := Hm.out; omega
            have hRP0 := hR.out.ins (k := a) (W' := W1) (u' := .slice A5 (a + 1 + (m - a)) c5) Hnm.out hKo (by
              have h := Hown62.out
              rw [Ht.out] at h
              rw [hlen1] at h ⊢
              exact h)
            have hgW : Below w.heap.size w W1 := Below.trans hg.out (hKo.below (fun j hj => (Hub.out j hj).1) hgwo)
            have Hq0 := Lib.hid (show Q.take a ++ g :: Q.drop a = insAllG (gs.take (i + 1)) by
              rw [Hins.out]
              exact (insG_at (by rw [← Hm.out]; exact ha) hlo.out Hgt.out).symm)
            have hnd := up_nodup (insAllG_up (gs.take (i + 1)))
            have hnt : g ∉ gs.take i := fun h => Hnm.out ((Hmem.out g).2 h)
            obtain ⟨Q1, hQ1e⟩ : ∃ Q1, Q1 = Q.take a ++ g :: Q.drop a := ⟨_, rfl⟩
            obtain ⟨F1, hF1e⟩ : ∃ F1 : Gr → Value, F1 = updG F g (.slice none 0 0) := ⟨_, rfl⟩
            obtain ⟨f1, hf1e⟩ : ∃ f1 : Gr → List Nat, f1 = updG (fun g => posOf gs g i) g [] := ⟨_, rfl⟩
            obtain ⟨m5, hm5e⟩ : ∃ m5, m5 = a + 1 + (m - a) := ⟨_, rfl⟩
            have hQ1 : Q1[a]? = some g := by
              have hta : (Q.take a).length = a := by rw [List.length_take]; have := Hm.out; omega
              rw [hQ1e, List.getElem?_append_right (by omega), hta, Nat.sub_self]
              rfl
            have Hfs := Lib.hid (show posOf gs g (i + 1) = f1 g ++ [i] by rw [hf1e, updG_self, posOf_more Hgi.out, posOf_none hnt])
            have Hfo := Lib.hid (show ∀ h ∈ Q1, h ≠ g → f1 h = posOf gs h (i + 1) from fun h _ hne => by rw [hf1e, updG_ne _ _ hne]; exact (posOf_other Hgi.out hne).symm)
            have Hfl := Lib.hid (show (f1 g).length ≤ 1000000 by rw [hf1e, updG_self]; exact Nat.zero_le _)
            rw [← hQ1e] at Hq0 hRP0
            rw [← Hq0.out] at hnd
            have Hq := Hq0
            have hm5 : m5 = Q1.length := by
              rw [hm5e, hlen1, hQ1e]
              have := congrArg List.length (List.take_append_drop a Q)
              simp only [List.length_append, List.length_cons] at this ⊢
              omega
            have hRP := hRP0
            rw [← hF1e, ← hf1e, ← hm5e] at hRP
            rw [← hm5e]
            have hm5s : m5 ≤ 1000001 := by omega
            clear hRP0 hKo hlen1 hnt hQ1e hF1e hf1e hm5e Hq0 Hown62 Hk62 Hrd8 Hown60 Hk60 Hat60 hz4 hz3 Hop3 Hrd3 Hg23 Hgr53 Hown53 Hop Hon0 Hrd0 Hown0 hcut1 hcut2 hlo
            have hm5a : a < m5 := by rw [hm5]; exact (List.getElem?_eq_some_iff.1 hQ1).1
            obtain ⟨bb, cc, e5, -, hbbz, -, -⟩ := own_slice (show W1.ownsRow w.heap.size 42 2 (.slice A5 m5 c5) m5 (poC F1 Q1) by rw [hm5]; rw [hm5] at hRP; exact hRP.row) (by omega)
            injection e5 with e5 e6 e7
            subst e5 e7
            have hcp : W1.cell? ⟨bb, a * 2 + 1, none⟩ = some (F1 g) := by
              have h := hRP.row
              rw [← hm5] at h
              rw [h.cellAt (a * 2 + 1) (by omega)]
              exact (poC_at hQ1).2
            have hfp : W1.frozen? ⟨bb, a * 2 + 1, none⟩ = false := by
              have h := hRP.row
              rw [← hm5] at h
              exact h.frozenAt _
            obtain ⟨A6, c6, e8, -, -, -⟩ := own_reads (hRP.own g (List.mem_of_getElem? hQ1))
            obtain ⟨n6, hn6⟩ : ∃ n6, n6 = (f1 g).length := ⟨_, rfl⟩
            have hn6b : n6 ≤ 1000000 := by rw [hn6]; exact Hfl.out
            rw [← hn6] at e8
            rw [e8] at hcp
            obtain ⟨W2, hW2⟩ : ∃ W2, W1.alloc (.cells #[.int .i64 0, .int .i64 (i : Int)] 44) = W2 := ⟨_, rfl⟩
            have hg12 : Grow W1 W2 := by rw [← hW2]; exact Grow.alloc _ _
            have hrd2 : ReadsAt W2 (W1.heap.size + 1) 2 (some ⟨W1.heap.size, 0, none⟩) 1 [.int .i64 0, .int .i64 (i : Int)] := by rw [← hW2]; exact readsP W1 44 2 _ rfl
            have hRP2 := hRP.grow hg12
            have ho2 := hRP2.own g (List.mem_of_getElem? hQ1)
            have hbz2 : w.heap.size ≤ W2.heap.size := Nat.le_trans hgW.size hg12.size
            rw [e8, ← hn6] at ho2
            have Hhat := Lib.hid (show ∀ v' W3, W2.grownBy W3 (Value.slice A6 n6 c6).ownBlock → W3.ownsRow w.heap.size 44 2 v' (n6 + 1) (plC (f1 g) ++ [.int .i64 0, .int .i64 (i : Int)]) → (v'.ownBlock = (Value.slice A6 n6 c6).ownBlock ∨ v'.ownBlock = some W2.heap.size) →
                W3.cell? ⟨bb, a * 2 + 1, none⟩ = some (.slice A6 n6 c6) ∧ W3.frozen? ⟨bb, a * 2 + 1, none⟩ = false ∧ RP (W3.setCell ⟨bb, a * 2 + 1, none⟩ v') w.heap.size (.slice (some ⟨bb, 0, none⟩) m5 c5) (insAllG (gs.take (i + 1))) (fun h => posOf gs h (i + 1)) (updG F1 g v') ∧ Below w.heap.size w (W3.setCell ⟨bb, a * 2 + 1, none⟩ v') from fun v' W3 hgr hown hat => by
              have hk : Keep (fun j => (F1 g).ownBlock = some j) W2 W3 := by rw [e8]; exact Keep.grown hgr
              have hp := hRP2.put hnd hQ1 (v := v') (l := f1 g ++ [i]) hk (by rw [List.length_append, ← hn6, plC_snoc]; exact hown) (by rw [e8]; exact hat) rfl
              have hrow3 : W3.ownsRow w.heap.size 42 2 (.slice (some ⟨bb, 0, none⟩) m5 c5) Q1.length (poC F1 Q1) := hk.own hRP2.row fun x h1 h2 => absurd (own_types hRP2.row (hRP2.own g (List.mem_of_getElem? hQ1)) h1 h2) (by decide)
              rw [← hm5] at hrow3
              refine ⟨?_, hrow3.frozenAt _, ?_, ?_⟩
              · rw [hrow3.cellAt (a * 2 + 1) (by omega), (poC_at hQ1).2, e8]
              · rw [← Hq.out]
                exact hp.congr fun h hh => by
                  by_cases e : h = g
                  · subst e
                    rw [updG_self]
                    exact (Hfs.out).symm
                  · rw [updG_ne _ _ e]
                    exact Hfo.out h hh e
              · refine Below.setCell (Below.trans hgW (Below.trans (Below.mono hg12 hgW.size) ((Keep.grown hgr).below (fun j hj => (ho2.lt j hj).1) hbz2))) ?_ _
                exact (hRP.row.lt bb rfl).1)
            clear hRP hRP2 hQ1 hnd hg12 hn6 hm5 e8
            go_wp2_with (first | (rw [hW2]; clear hW2) | (at_builtin; (refine wpList_append_reads _ rfl (.tmp 69) (.tmp 72) rfl placeTy rfl ho2 rfl hrd2 (by simp [Value.oneCell']) (by simp only [maxLen]; omega) (by omega) hbz2 ?_; intro v' W3 hown3 hgr3 hat3; obtain ⟨A8, c8, rfl, -, -, -⟩ := own_reads hown3; obtain ⟨hc3, hf3, hp3, hl3⟩ := Hhat.out _ W3 hgr3 hown3 hat3; have Hp3 := Lib.hid hp3; have Hl3 := Lib.hid hl3; clear hown3 hgr3 hat3 hp3 hl3)))
            go_roundw
            case rel => exact ⟨i + 1, _, _, by omega, rfl, by go_num, Hp3.out, Hl3.out⟩
            case measure => simp [intOf]; omega
          · have d5 : ((a : Int) == (m : Int)) = true := by rw [show a = m by omega]; simp
            go_upto_region 10 with (fail)
            clear d5 ham
            have hcut1 := fun W => run_cut_tail postTy A1 m c1 a .i64 (a : Int) rfl ha W
            have hcut2 := fun W => run_cut_head postTy A1 m c1 a .i64 (a : Int) rfl (Nat.le_trans ha H11.out) W
            obtain ⟨wz, hwz⟩ : ∃ wz, wo.alloc (.cells #[] 42) = wz := ⟨_, rfl⟩
            have hgz0 : Grow wo wz := by rw [← hwz]; exact Grow.alloc _ _
            have Hown0 := Lib.hid (show wz.ownsRow wo.heap.size 42 2 (.slice (some ⟨wo.heap.size, 0, none⟩) 0 0) 0 [] by rw [← hwz]; exact World.ownsRow_lit wo #[] 0 (Nat.le_refl _) (by decide) rfl)
            have Hrd0 := Lib.hid (show ReadsAt wz wo.heap.size 2 (cutA A1 c1 a 2) (m - a) (poC F (Q.drop a)) by
              have h := (H13.out.tail a ha H11.out).below hgz0
              rw [poC_drop] at h
              exact h)
            have Hon0 := Lib.hid (show ∀ u ∈ poC F (Q.drop a), u.oneCell' = true from fun u hu => Hone.out u (by rw [← poC_drop] at hu; exact List.mem_of_mem_drop hu))
            have hgwo := hg.out.size
            have hzz0 : wo.heap.size ≤ wz.heap.size := hgz0.size
            have Hgz0 := Lib.hid hgz0
            clear hgz0
            have hmi1 : m ≤ 1000000 := by omega
            have Hub := Lib.hid (show ∀ j, (Value.slice A1 m c1).ownBlock = some j → w.heap.size ≤ j ∧ j < wo.heap.size from hR.out.row.lt)
            have Hop := Lib.hid (show wo.ownsRow w.heap.size 42 2 (.slice A1 a c1) a (poC F (Q.take a)) by
              have h := hR.out.row
              rw [← Hm.out] at h
              have h2 := own_pre h ha
              rw [poC_take] at h2
              exact h2)
            have Hab := Lib.hid (show ∀ k, (Value.slice A1 k c1).ownBlock = (Value.slice A1 m c1).ownBlock from fun k => by cases A1 <;> rfl)
            go_upto_region 12 with (first | (rw [hwz]; clear hwz) | (at_builtin; refine wpList_append_reads _ rfl (.tmp 49) (.tmp 52) rfl postTy rfl Hown0.out rfl Hrd0.out Hon0.out (by simp only [maxLen]; omega) (by omega) hzz0 ?_; intro v53 W2 hown53 hgr53 hat53; clear hat53; rw [Nat.zero_add, List.nil_append] at hown53; obtain ⟨A7, c7, rfl, -, -, -⟩ := own_reads hown53; have Hown53 := Lib.hid hown53; have Hgr53 := Lib.hid (show Grow wo W2 from Below.trans Hgz0.out ((Keep.grown hgr53).below (fun j hj => by injection hj with hj; rw [← hj]; exact Nat.le_refl _) hzz0)); clear hown53 hgr53; obtain ⟨W3, hW3⟩ : ∃ W3, W2.alloc (.cells #[.string t, .slice none 0 0] 42) = W3 := ⟨_, rfl⟩; have Hg23 := Lib.hid (show Grow W2 W3 by rw [← hW3]; exact Grow.alloc _ _); have Hrd3 := Lib.hid (show ReadsAt W3 (W2.heap.size + 1) 2 (some ⟨W2.heap.size, 0, none⟩) 1 [.string t, .slice none 0 0] by rw [← hW3]; exact readsP W2 42 2 _ rfl); have Hop3 := Lib.hid (own_below Hop.out (Below.trans Hgr53.out (Below.mono Hg23.out Hgr53.out.size))); have hz3 : w.heap.size ≤ W3.heap.size := (Nat.le_trans hgwo (Nat.le_trans Hgr53.out.size Hg23.out.size))) | (rw [hW3]; clear hW3) | (at_builtin; refine wpList_append_reads (v := .slice A1 a c1) _ rfl (.tmp 56) (.tmp 59) rfl postTy rfl Hop3.out rfl Hrd3.out (by simp [Value.oneCell']) (by simp only [maxLen]; omega) (by omega) hz3 ?_; intro v60 W4 hown60 hgr60 hat60; have Hk60 := Lib.hid (show Keep (fun j => (Value.slice A1 m c1).ownBlock = some j) W3 W4 by rw [← Hab.out a]; exact Keep.grown hgr60); have Hat60 := Lib.hid hat60; have hown53b : W4.ownsRow wo.heap.size 42 2 (.slice A7 (m - a) c7) (m - a) (poC F (Q.drop a)) := Hk60.out.own (own_below Hown53.out Hg23.out) (fun j h1 h2 => Nat.lt_irrefl _ (Nat.lt_of_lt_of_le (Hub.out j h2).2 (Hown53.out.lt j h1).1)); obtain ⟨A8, c8, e8, -, -, hrd8⟩ := own_reads hown53b; injection e8 with e8 _ e9; subst e8 e9; have Hrd8 := Lib.hid hrd8; obtain ⟨A9, c9, rfl, -, -, -⟩ := own_reads hown60; have Hown60 := Lib.hid hown60; have hz4 : w.heap.size ≤ W4.heap.size := Nat.le_trans hz3 Hk60.out.size; clear hown60 hgr60 hat60 hown53b hrd8) | (at_builtin; refine wpList_append_reads (v := .slice A9 (a + 1) c9) _ rfl (.tmp 60) (.tmp 61) rfl postTy rfl Hown60.out rfl Hrd8.out Hon0.out (by simp only [maxLen]; omega) (by omega) hz4 ?_; intro v62 W1 hown62 hgr62 hat62; clear hat62; obtain ⟨A5, c5, rfl, -, -, -⟩ := own_reads hown62; have Hown62 := Lib.hid hown62; have Hk62 := Lib.hid (Keep.grown hgr62); clear hown62 hgr62) | fail)
            have hKo : Keep (fun j => (Value.slice A1 m c1).ownBlock = some j) wo W1 := ((Keep.grow (Below.trans Hgr53.out (Below.mono Hg23.out Hgr53.out.size))).trans' Hk60.out).trans Hk62.out fun j hj => by
              rcases Hat60.out with h | h
              · exact Or.inl (by rw [← Hab.out a, ← h]; exact hj)
              · rw [h] at hj
                injection hj with hj
                exact Or.inr (by rw [← hj]; exact Nat.le_trans Hgr53.out.size Hg23.out.size)
            have hlen1 : a + 1 + (m - a) = Q.length + 1 := by have := Hm.out; omega
            have hRP0 := hR.out.ins (k := a) (W' := W1) (u' := .slice A5 (a + 1 + (m - a)) c5) Hnm.out hKo (by
              have h := Hown62.out
              rw [Ht.out] at h
              rw [hlen1] at h ⊢
              exact h)
            have hgW : Below w.heap.size w W1 := Below.trans hg.out (hKo.below (fun j hj => (Hub.out j hj).1) hgwo)
            have Hq0 := Lib.hid (show Q.take a ++ g :: Q.drop a = insAllG (gs.take (i + 1)) by
              rw [Hins.out]
              exact (insG_at (by rw [← Hm.out]; exact ha) hlo.out Hgt.out).symm)
            have hnd := up_nodup (insAllG_up (gs.take (i + 1)))
            have hnt : g ∉ gs.take i := fun h => Hnm.out ((Hmem.out g).2 h)
            obtain ⟨Q1, hQ1e⟩ : ∃ Q1, Q1 = Q.take a ++ g :: Q.drop a := ⟨_, rfl⟩
            obtain ⟨F1, hF1e⟩ : ∃ F1 : Gr → Value, F1 = updG F g (.slice none 0 0) := ⟨_, rfl⟩
            obtain ⟨f1, hf1e⟩ : ∃ f1 : Gr → List Nat, f1 = updG (fun g => posOf gs g i) g [] := ⟨_, rfl⟩
            obtain ⟨m5, hm5e⟩ : ∃ m5, m5 = a + 1 + (m - a) := ⟨_, rfl⟩
            have hQ1 : Q1[a]? = some g := by
              have hta : (Q.take a).length = a := by rw [List.length_take]; have := Hm.out; omega
              rw [hQ1e, List.getElem?_append_right (by omega), hta, Nat.sub_self]
              rfl
            have Hfs := Lib.hid (show posOf gs g (i + 1) = f1 g ++ [i] by rw [hf1e, updG_self, posOf_more Hgi.out, posOf_none hnt])
            have Hfo := Lib.hid (show ∀ h ∈ Q1, h ≠ g → f1 h = posOf gs h (i + 1) from fun h _ hne => by rw [hf1e, updG_ne _ _ hne]; exact (posOf_other Hgi.out hne).symm)
            have Hfl := Lib.hid (show (f1 g).length ≤ 1000000 by rw [hf1e, updG_self]; exact Nat.zero_le _)
            rw [← hQ1e] at Hq0 hRP0
            rw [← Hq0.out] at hnd
            have Hq := Hq0
            have hm5 : m5 = Q1.length := by
              rw [hm5e, hlen1, hQ1e]
              have := congrArg List.length (List.take_append_drop a Q)
              simp only [List.length_append, List.length_cons] at this ⊢
              omega
            have hRP := hRP0
            rw [← hF1e, ← hf1e, ← hm5e] at hRP
            rw [← hm5e]
            have hm5s : m5 ≤ 1000001 := by omega
            clear hRP0 hKo hlen1 hnt hQ1e hF1e hf1e hm5e Hq0 Hown62 Hk62 Hrd8 Hown60 Hk60 Hat60 hz4 hz3 Hop3 Hrd3 Hg23 Hgr53 Hown53 Hop Hon0 Hrd0 Hown0 hcut1 hcut2 hlo
            have hm5a : a < m5 := by rw [hm5]; exact (List.getElem?_eq_some_iff.1 hQ1).1
            obtain ⟨bb, cc, e5, -, hbbz, -, -⟩ := own_slice (show W1.ownsRow w.heap.size 42 2 (.slice A5 m5 c5) m5 (poC F1 Q1) by rw [hm5]; rw [hm5] at hRP; exact hRP.row) (by omega)
            injection e5 with e5 e6 e7
            subst e5 e7
            have hcp : W1.cell? ⟨bb, a * 2 + 1, none⟩ = some (F1 g) := by
              have h := hRP.row
              rw [← hm5] at h
              rw [h.cellAt (a * 2 + 1) (by omega)]
              exact (poC_at hQ1).2
            have hfp : W1.frozen? ⟨bb, a * 2 + 1, none⟩ = false := by
              have h := hRP.row
              rw [← hm5] at h
              exact h.frozenAt _
            obtain ⟨A6, c6, e8, -, -, -⟩ := own_reads (hRP.own g (List.mem_of_getElem? hQ1))
            obtain ⟨n6, hn6⟩ : ∃ n6, n6 = (f1 g).length := ⟨_, rfl⟩
            have hn6b : n6 ≤ 1000000 := by rw [hn6]; exact Hfl.out
            rw [← hn6] at e8
            rw [e8] at hcp
            obtain ⟨W2, hW2⟩ : ∃ W2, W1.alloc (.cells #[.int .i64 0, .int .i64 (i : Int)] 44) = W2 := ⟨_, rfl⟩
            have hg12 : Grow W1 W2 := by rw [← hW2]; exact Grow.alloc _ _
            have hrd2 : ReadsAt W2 (W1.heap.size + 1) 2 (some ⟨W1.heap.size, 0, none⟩) 1 [.int .i64 0, .int .i64 (i : Int)] := by rw [← hW2]; exact readsP W1 44 2 _ rfl
            have hRP2 := hRP.grow hg12
            have ho2 := hRP2.own g (List.mem_of_getElem? hQ1)
            have hbz2 : w.heap.size ≤ W2.heap.size := Nat.le_trans hgW.size hg12.size
            rw [e8, ← hn6] at ho2
            have Hhat := Lib.hid (show ∀ v' W3, W2.grownBy W3 (Value.slice A6 n6 c6).ownBlock → W3.ownsRow w.heap.size 44 2 v' (n6 + 1) (plC (f1 g) ++ [.int .i64 0, .int .i64 (i : Int)]) → (v'.ownBlock = (Value.slice A6 n6 c6).ownBlock ∨ v'.ownBlock = some W2.heap.size) →
                W3.cell? ⟨bb, a * 2 + 1, none⟩ = some (.slice A6 n6 c6) ∧ W3.frozen? ⟨bb, a * 2 + 1, none⟩ = false ∧ RP (W3.setCell ⟨bb, a * 2 + 1, none⟩ v') w.heap.size (.slice (some ⟨bb, 0, none⟩) m5 c5) (insAllG (gs.take (i + 1))) (fun h => posOf gs h (i + 1)) (updG F1 g v') ∧ Below w.heap.size w (W3.setCell ⟨bb, a * 2 + 1, none⟩ v') from fun v' W3 hgr hown hat => by
              have hk : Keep (fun j => (F1 g).ownBlock = some j) W2 W3 := by rw [e8]; exact Keep.grown hgr
              have hp := hRP2.put hnd hQ1 (v := v') (l := f1 g ++ [i]) hk (by rw [List.length_append, ← hn6, plC_snoc]; exact hown) (by rw [e8]; exact hat) rfl
              have hrow3 : W3.ownsRow w.heap.size 42 2 (.slice (some ⟨bb, 0, none⟩) m5 c5) Q1.length (poC F1 Q1) := hk.own hRP2.row fun x h1 h2 => absurd (own_types hRP2.row (hRP2.own g (List.mem_of_getElem? hQ1)) h1 h2) (by decide)
              rw [← hm5] at hrow3
              refine ⟨?_, hrow3.frozenAt _, ?_, ?_⟩
              · rw [hrow3.cellAt (a * 2 + 1) (by omega), (poC_at hQ1).2, e8]
              · rw [← Hq.out]
                exact hp.congr fun h hh => by
                  by_cases e : h = g
                  · subst e
                    rw [updG_self]
                    exact (Hfs.out).symm
                  · rw [updG_ne _ _ e]
                    exact Hfo.out h hh e
              · refine Below.setCell (Below.trans hgW (Below.trans (Below.mono hg12 hgW.size) ((Keep.grown hgr).below (fun j hj => (ho2.lt j hj).1) hbz2))) ?_ _
                exact (hRP.row.lt bb rfl).1)
            clear hRP hRP2 hQ1 hnd hg12 hn6 hm5 e8
            go_wp2_with (first | (rw [hW2]; clear hW2) | (at_builtin; (refine wpList_append_reads _ rfl (.tmp 69) (.tmp 72) rfl placeTy rfl ho2 rfl hrd2 (by simp [Value.oneCell']) (by simp only [maxLen]; omega) (by omega) hbz2 ?_; intro v' W3 hown3 hgr3 hat3; obtain ⟨A8, c8, rfl, -, -, -⟩ := own_reads hown3; obtain ⟨hc3, hf3, hp3, hl3⟩ := Hhat.out _ W3 hgr3 hown3 hat3; have Hp3 := Lib.hid hp3; have Hl3 := Lib.hid hl3; clear hown3 hgr3 hat3 hp3 hl3)))
            go_roundw
            case rel => exact ⟨i + 1, _, _, by omega, rfl, by go_num, Hp3.out, Hl3.out⟩
            case measure => simp [intOf]; omega
    · have d1 : decide ((i : Int) + 3 ≤ (n : Int)) = false := decide_eq_false (by have := HNn.out; omega)
      obtain rfl : i = N := by omega
      have hR2 := hR.out
      rw [HN.out, List.take_length, insAllG_eq] at hR2
      obtain ⟨A1, c1, rfl, -, -, -⟩ := own_reads hR2.row
      have HR2 := Lib.hid hR2
      clear hR2 hR
      go_wp2
      go_ret
      exact ⟨_, _, rfl, hg.out, HR2.out⟩
set_option maxRecDepth 100000 in
set_option maxHeartbeats 2000000 in
theorem rgGrams_any (w : World) (B : Nat) (A : Option Addr) (n c : Nat) (b : List UInt8) (hb : BytesAt w B A n b) (hB : B ≤ w.heap.size) (hnc : n ≤ c) (hn : n ≤ 1000000) :
    Calls Tryz.prog 15 #[.slice A n c] w (TextsTo w (sortG (firsts [] (grams b)))) := by
  have textTy : AppTy Tryz.prog 30 9 (.string .empty) 1 16 := AppTy.mk' Tryz.underlying30 (by kernel_rfl) rfl (by decide)
  have hcall := rgPlaces_any w B A n c b hb hB hnc hn
  have Hql := Lib.hid (show (sortG (firsts [] (grams b))).length ≤ n by
    rw [← insAllG_eq]
    refine Nat.le_trans (insAllG_len _) ?_
    rw [grams_len, hb.len]
    omega)
  unfold RPostsTo at hcall
  obtain ⟨Q, hQ⟩ : ∃ Q, Q = sortG (firsts [] (grams b)) := ⟨_, rfl⟩
  rw [← hQ] at hcall Hql ⊢
  have Hcall := Lib.hid hcall
  obtain ⟨m, hm⟩ : ∃ m, m = Q.length := ⟨_, rfl⟩
  have hmn : m ≤ 1000000 := by have := Hql.out; omega
  have Hm := Lib.hid hm
  clear hcall hQ hm hb
  go_enter Tryz.func15, Tryz.ntmps15
  go_wp2_with fail
  refine Hcall.out.mono ?_
  rintro e w1 ⟨u, F, rfl, hg1, hR⟩
  obtain ⟨A1, c1, rfl, -, -, hrd⟩ := own_reads hR.row
  rw [← Hm.out] at hrd ⊢
  have Hrd := Lib.hid hrd
  have Hg1 := Lib.hid hg1
  clear hrd hR hg1 Hcall
  go_wp2_with fail
  go_loopw [3, 5] (fun v3 v5 wr => ∃ (k : Nat) (v : Value), k ≤ m ∧ v = v3 ∧ v5 = .int .i64 (k : Int) ∧ Hid (wr.ownsRow w1.heap.size 9 1 v (Q.take k).length (grT (Q.take k))) ∧ Hid (Below w1.heap.size w1 wr)) (fun _ v5 _ => m - (intOf v5).toNat)
  case atStart => exact ⟨0, _, by omega, rfl, rfl, World.ownsRow_nil _ _ _ _, Below.refl _ _⟩
  case round =>
    obtain ⟨k, v, hk, rfl, rfl, ho, hg⟩ := hrel
    by_cases hlt : k < m
    · have d1 : decide ((k : Int) < (m : Int)) = true := decide_eq_true (by omega)
      obtain ⟨g, hgk⟩ : ∃ g, Q[k]? = some g := ⟨_, List.getElem?_eq_getElem (by rw [← Hm.out]; exact hlt)⟩
      obtain ⟨b1, o1, rfl, hb1, hcs⟩ := (Hrd.out.below hg.out).2 (by omega)
      obtain ⟨t, ht⟩ : ∃ t, t = grS g := ⟨_, rfl⟩
      have hcl : wr.cell? ⟨b1, o1 + k * 2, none⟩ = some (.string t) := by
        rw [ht]
        exact hcs _ _ (poC_at hgk).1
      have Hs2 := Lib.hid (show grT (Q.take (k + 1)) = grT (Q.take k) ++ [.string t] ∧ (Q.take (k + 1)).length = (Q.take k).length + 1 by
        rw [List.take_add_one, hgk, ht]
        exact ⟨grT_snoc _ _, by simp⟩)
      obtain ⟨R, hR⟩ : ∃ R, R = grT (Q.take k) := ⟨_, rfl⟩
      obtain ⟨q, hq⟩ : ∃ q, q = (Q.take k).length := ⟨_, rfl⟩
      have hqk : q ≤ k := by rw [hq]; exact List.length_take_le _ _
      rw [← hR, ← hq] at ho Hs2
      have hown := own_below ho.out (Grow.alloc wr (.cells #[.string t] 9))
      have hgz := hg.out.size
      have G1 := Lib.hid (show q + 1 ≤ maxLen by unfold maxLen; omega)
      have G2 := Lib.hid (show (q + 1) * 16 ≤ 140737488355328 by omega)
      have G3 := Lib.hid (show w1.heap.size ≤ (wr.alloc (.cells #[.string t] 9)).heap.size from Nat.le_trans hgz (Grow.alloc _ _).size)
      clear ht hR hq hgk hcs
      go_wp2_with (at_builtin; refine wpList_append_reads _ rfl (.tmp 14) (.tmp 20) rfl textTy rfl hown rfl (ReadsAt.made1 wr 9 (.string t)) (by simp [Value.oneCell']) G1.out G2.out G3.out ?_; intro v' w2 hown2 hgr2 hat2)
      have hg2 : Below w1.heap.size w1 w2 := Below.trans (Below.trans hg.out (Below.mono (Grow.alloc wr (.cells #[.string t] 9)) hgz)) ((Keep.grown hgr2).below (fun j hj => (hown.lt j hj).1) G3.out)
      have Ho2 := Lib.hid (show w2.ownsRow w1.heap.size 9 1 v' (Q.take (k + 1)).length (grT (Q.take (k + 1))) by
        rw [Hs2.out.1, Hs2.out.2]
        exact hown2)
      have Hg2 := Lib.hid hg2
      clear hgr2 hat2 hown hown2 hg2 hgz
      go_roundw
      case rel => exact ⟨k + 1, _, by omega, rfl, by go_num, Ho2, Hg2⟩
      case measure => simp [intOf]; omega
    · have d1 : decide ((k : Int) < (m : Int)) = false := decide_eq_false (by omega)
      obtain rfl : k = m := by omega
      rw [Hm.out, List.take_length] at ho
      obtain ⟨A2, c2, rfl, -, -, -⟩ := own_reads ho.out
      have Hf := Lib.hid (show Grow w wr ∧ wr.ownsRow w.heap.size 9 1 (.slice A2 Q.length c2) Q.length (grT Q) from ⟨Below.trans Hg1.out (Below.mono hg.out Hg1.out.size), own_base ho.out Hg1.out.size⟩)
      clear ho hg
      go_wp2
      go_ret
      exact ⟨_, rfl, Hf.out.1, Hf.out.2⟩
end Go.Proofs.YtfjnjlcmikhehaaGreat
