/-
  The walk of near's Places: where a run may stand.
-/
import Derived.Test.YtamdejidkgnaeaaNearRun
import Derived.Test.YtamdejidkgnaeaaNearSeq
namespace Go.Proofs.Ytamdejidkgnaeaa
open Go.RowKit NearM GramM
set_option linter.unusedVariables false
/-- where a run may stand, by the places of its grams -/
def nearF : List (List Pl) → List Pl
  | [] => []
  | L :: r => L.filter (mayB r)
/-- what the rounds over the grams keep -/
structure PlI (w : World) (F : List (List Pl)) (i : Nat) (W : World) : Prop where
  box : ∃ v0 v1 vs, Blk W w.heap.size 50 #[v0, v1] ∧ (i = 0 → v0 = .slice none 0 0) ∧ (∀ L, 0 < i → F[0]? = some L → W.ownsRow (w.heap.size + 1) 33 2 v0 L.length (plCs L)) ∧
    W.ownsRow (w.heap.size + 1) 47 1 v1 (i - 1) vs ∧ ∀ j v L, vs[j]? = some v → F[j + 1]? = some L → W.ownsRow (w.heap.size + 1) 33 2 v L.length (plCs L)
  grow : Grow w W
theorem PlI.more {w W W' : World} {F : List (List Pl)} {i : Nat} (h : PlI w F i W) (hg : Grow W W') : PlI w F i W' := by
  obtain ⟨⟨v0, v1, vs, h1, h2, h3, h4, h5⟩, hgr⟩ := h
  exact ⟨⟨v0, v1, vs, h1.below hg h1.lt, h2, fun L hi hL => own_below (h3 L hi hL) hg, own_below h4 hg, fun j v L hv hL => own_below (h5 j v L hv hL) hg⟩, hgr.trans hg⟩
theorem own_form {w : World} {base e size n : Nat} {v : Value} {xs : List Value} (h : w.ownsRow base e size v n xs) : ∃ A c, v = .slice A n c := by
  obtain ⟨A, c, e, -⟩ := own_reads h
  exact ⟨A, c, e⟩
theorem own_pls' {w : World} {base n : Nat} {v : Value} {l : List Pl} (h : w.ownsRow base 33 2 v n (plCs l)) (hl : l.length = n) : ∃ A c, v = .slice A n c ∧ PlsAt w w.heap.size A n l := by
  obtain ⟨A', c', e', -, -, hR⟩ := own_reads h
  exact ⟨A', c', e', hl, hR⟩
set_option maxRecDepth 100000 in
set_option maxHeartbeats 4000000 in
theorem nPlaces_any (w : World) (B : Nat) (s : ByteArray) (A : Option Addr) (n c : Nat) (ps : List (ByteArray × List Pl)) (h : PostsAt w B A n ps) (hB : B ≤ w.heap.size) (hn : n ≤ 1000000000) (hd : (ps.map (·.1)).Nodup)
    (hps : ∀ p ∈ ps, p.2.length ≤ 1000000000 ∧ Up p.2 ∧ ∀ x ∈ p.2, x.2 ≤ 100000000) (hs : s.size ≤ 1000000) :
    Calls Try.prog 7 #[.slice A n c, .string s] w fun e w' => ∃ v, e = .returned v ∧ w'.ownsRow w.heap.size 33 2 v (nearF ((grams s.data.toList).map fun g => findP ps (grS g))).length (plCs (nearF ((grams s.data.toList).map fun g => findP ps (grS g)))) ∧ Grow w w' := by
  have othTy : AppTy Try.prog 48 47 (.slice none 0 0) 1 24 := AppTy.mk' Try.underlying48 (by kernel_rfl) rfl (by decide)
  have Hfp := Lib.hid (show ∀ g : ByteArray, (findP ps g).length ≤ 1000000000 ∧ Up (findP ps g) ∧ ∀ x ∈ findP ps g, x.2 ≤ 100000000 from fun g => by
    unfold findP
    split
    · rename_i p hp
      exact hps p (List.mem_of_find?_eq_some hp)
    · exact ⟨Nat.zero_le _, List.Pairwise.nil, fun x hx => by cases hx⟩)
  obtain ⟨gs, hgs⟩ : ∃ gs, gs = grams s.data.toList := ⟨_, rfl⟩
  have hgl : gs.length ≤ 1000000 := by
    rw [hgs, grams_len]
    have : s.data.toList.length = s.size := Array.length_toList
    omega
  have Hrun := Lib.hid (show ∀ W, Calls Try.prog 14 #[.string s] W (TextsTo W gs) from fun W => by rw [hgs]; exact gRun_any W s (by omega))
  have HR := Lib.hid (show ∀ W, Grow w W → PostsAt W B A n ps from fun W hg => h.grow hg hB)
  have Hd := Lib.hid hd
  have Hpl := Lib.hid (fun p hp => (hps p hp).1)
  rw [← hgs]
  obtain ⟨F, hF⟩ : ∃ F, F = gs.map fun g => findP ps (grS g) := ⟨_, rfl⟩
  rw [← hF]
  have HF := Lib.hid hF
  have Hgl := Lib.hid hgl
  obtain ⟨w1, hw1⟩ : ∃ w1, w.alloc (.cells #[.slice none 0 0, .slice none 0 0] 50) = w1 := ⟨_, rfl⟩
  have H1 := Lib.hid (show PlI w F 0 w1 from by
    rw [← hw1]
    exact ⟨⟨_, _, [], Blk.new _ _ _, fun _ => rfl, fun L hi => by omega, World.ownsRow_nil _ _ _ _, fun j v L hv => by simp at hv⟩, Grow.alloc _ _⟩)
  clear h hd hps hgs hF
  go_enter Try.func7, Try.ntmps7
  go_wp2_with fail
  refine (Hrun.out w1).mono ?_
  rintro e w2 ⟨v, rfl, hg2, hrow⟩
  obtain ⟨m, hm⟩ : ∃ m, m = gs.length := ⟨_, rfl⟩
  rw [← hm] at hrow hgl
  have Hm := Lib.hid hm
  obtain ⟨Ag, cg, rfl, -, -, hRg⟩ := own_reads hrow
  have H2 := Lib.hid (H1.out.more hg2)
  have Hrow := Lib.hid hrow
  have hz1 : w.heap.size + 1 ≤ w1.heap.size := by rw [← hw1]; simp
  have hz2 := hg2.size
  clear hg2 hrow hm hRg hw1
  go_wp2_with fail
  go_loopw [6, 7, 8, 12] (fun v6 v7 v8 v12 wr => ∃ i : Nat, i ≤ m ∧ v12 = .int .i64 (i : Int) ∧ Hid (PlI w F i wr) ∧ Hid (wr.ownsRow w1.heap.size 9 1 (.slice Ag m cg) m (grT gs))) (fun _ _ _ v12 _ => m - (intOf v12).toNat)
  case atStart => exact ⟨0, by omega, rfl, H2, Hrow⟩
  case round =>
    obtain ⟨i, hi, rfl, hpi, hrow⟩ := hrel
    by_cases hlt : i < m
    · have d1 : decide ((i : Int) < (m : Int)) = true := decide_eq_true (by omega)
      obtain ⟨g, hg⟩ : ∃ g, gs[i]? = some g := ⟨_, List.getElem?_eq_getElem (by rw [← Hm.out]; exact hlt)⟩
      obtain ⟨L, hL⟩ : ∃ L, L = findP ps (grS g) := ⟨_, rfl⟩
      have hFi : F[i]? = some L := by rw [HF.out, List.getElem?_map, hg, hL]; rfl
      obtain ⟨gb, gc, e9, -, -, -, -⟩ := own_slice hrow.out (by omega)
      injection e9 with e9 e10 e11
      subst e9 e11
      have hcg : wr.cell? ⟨gb, i, none⟩ = some (.string (grS g)) := own_cell hrow.out (by rw [grT, List.getElem?_map, hg]; rfl)
      have hfind := nFind_any wr B (grS g) A n c ps (HR.out wr hpi.out.grow) (Nat.le_trans hB hpi.out.grow.size) hn Hd.out Hpl.out
      have hLp := Hfp.out (grS g)
      rw [← hL] at hfind hLp
      have Hfind := Lib.hid hfind
      have HLp := Lib.hid hLp
      have HFi := Lib.hid hFi
      clear hfind hLp hg hL hFi
      go_wp2_with fail
      refine Hfind.out.mono ?_
      rintro e w4 ⟨v4, rfl, ho4, hg4⟩
      obtain ⟨A4, c4, rfl, hpl4⟩ := own_pls' ho4 rfl
      have Hris := Lib.hid (nrising_any w4 w4.heap.size A4 L.length c4 L hpl4 (Nat.le_refl _) HLp.out.2.1 HLp.out.1)
      have Hg4 := Lib.hid hg4
      clear ho4 hpl4 hg4
      go_wp2_with fail
      refine Hris.out.mono ?_
      rintro e w5 ⟨v5, rfl, ho5, hg5⟩
      have Hg45 := Lib.hid (Hg4.out.trans hg5)
      have hpi5 := hpi.out.more Hg45.out
      have hrow5 := own_below hrow.out Hg45.out
      have ho5' := own_base ho5 (show w.heap.size + 1 ≤ w4.heap.size from by
        have h1 := Hg4.out.size
        obtain ⟨v0, v1, vs, hbx, -⟩ := hpi.out.box
        have := hbx.lt
        omega)
      obtain ⟨⟨v0, v1, vs, hbx, hb0, hbL, hv1, hvs⟩, hgr5⟩ := hpi5
      obtain ⟨A5, c5, rfl⟩ := own_form ho5'
      obtain ⟨A1, c1, rfl⟩ := own_form hv1
      have Hgr5 := Lib.hid hgr5
      have Hrow5 := Lib.hid hrow5
      have Ho5 := Lib.hid ho5'
      have Hbx := Lib.hid hbx
      have HbL := Lib.hid hbL
      have Hv1 := Lib.hid hv1
      have Hvs := Lib.hid hvs
      have hnotbx : ∀ {b2 e s n : Nat} {v : Value} {xs : List Value}, w5.ownsRow b2 e s v n xs → e ≠ 50 → ∀ j, v.ownBlock = some j → ¬ (j = w.heap.size) := fun ho hne j hj e => by
        subst e
        exact hne (own_type_blk ho hj Hbx.out)
      clear ho5 hg5 hrow5 hgr5 ho5' hbL hv1 hvs hpi hrow hcg Hris Hfind
      have hf0 := hbx.frozen 0
      have hf1 := hbx.frozen 1
      have hc0 := hbx.cell 0
      have hc1 := hbx.cell 1
      clear hbx
      by_cases hi0 : i = 0
      · subst hi0
        obtain rfl := hb0 rfl
        go_wp2_with fail
        have hs5 : Keep (fun j => j = w.heap.size) w5 (w5.setCell ⟨w.heap.size, 0, none⟩ (.slice A5 L.length c5)) := Keep.setCell w5 ⟨w.heap.size, 0, none⟩ _
        have hpi6 := Lib.hid (show PlI w F 1 (w5.setCell ⟨w.heap.size, 0, none⟩ (.slice A5 L.length c5)) from by
          have hv := Hv1.out
          refine ⟨⟨_, _, vs, Hbx.out.set 0 _, fun h => by omega, fun L' _ hL' => ?_, hs5.own hv (hnotbx hv (by decide)), fun j v L' hv' hL' => ?_⟩, ((Keep.grow (S := fun j => j = w.heap.size) Hgr5.out).trans' hs5).below (fun j hj => by omega) (Nat.le_refl _)⟩
          · have h0 := HFi.out
            rw [h0] at hL'
            injection hL' with hL'
            rw [← hL']
            exact hs5.own Ho5.out (hnotbx Ho5.out (by decide))
          · exact absurd hv' (by
              have h := hv.1
              have : vs.length = 0 := by simpa using h
              rw [List.eq_nil_of_length_eq_zero this]
              simp))
        have hrow6 := Lib.hid (hs5.own Hrow5.out (hnotbx Hrow5.out (by decide)))
        go_roundw
        case rel => exact ⟨1, by omega, by first | rfl | go_num, hpi6, hrow6⟩
        case measure => simp only [intOf]; omega
      · have hi1 : ((i : Int) == 0) = false := by rw [beq_eq_false_iff_ne]; omega
        have hG3 : Grow w5 (w5.alloc (.cells #[.slice A5 L.length c5] 47)) := Grow.alloc _ _
        have hown := own_below Hv1.out hG3
        have hR1 := readsB2 (s := 1) (cs := [.slice A5 L.length c5]) rfl (Blk.new w5 47 #[.slice A5 L.length c5])
        have HO3 := Lib.hid (Hbx.out.alloc (.cells #[.slice A5 L.length c5] 47))
        have hz3 : w.heap.size + 1 ≤ (w5.alloc (.cells #[.slice A5 L.length c5] 47)).heap.size := Nat.le_trans Hbx.out.lt hG3.size
        have HneO := Lib.hid (show some w.heap.size ≠ (Value.slice A1 (i - 1) c1).ownBlock from fun e => hnotbx Hv1.out (by decide) _ e.symm rfl)
        have HG3 := Lib.hid hG3
        go_wp2_with (at_builtin; refine wpList_append_reads _ rfl (.tmp 26) (.tmp 28) rfl othTy rfl hown rfl hR1 (by simp [Value.oneCell']) (by simp only [maxLen]; omega) (by omega) hz3 ?_; intro v' wq hown4 hgrow4 hat4; obtain ⟨A10, c10, rfl⟩ := own_form hown4; have hO4 := HO3.out.grown hgrow4 HneO.out; have hcO4 := hO4.cell 1; have hfO4 := hO4.frozen 1; have Hown4 := Lib.hid hown4; have Hgrow4 := Lib.hid hgrow4; have HO4 := Lib.hid hO4; clear hown4 hgrow4 hat4 hO4)
        obtain ⟨wz, hwz⟩ : ∃ wz, wq.setCell ⟨w.heap.size, 1, none⟩ (.slice A10 (i - 1 + 1) c10) = wz := ⟨_, rfl⟩
        have hks : Keep (fun j => j = w.heap.size) wq wz := by rw [← hwz]; exact Keep.setCell wq ⟨w.heap.size, 1, none⟩ _
        have hbz : Blk wz w.heap.size 50 #[v0, .slice A10 (i - 1 + 1) c10] := by rw [← hwz]; exact HO4.out.set 1 _
        have hkt : Keep (fun j => j = w.heap.size ∨ (Value.slice A1 (i - 1) c1).ownBlock = some j) w5 wz := ((Keep.grow HG3.out).trans' ((Keep.grown Hgrow4.out).mono fun j hj => Or.inl (Or.inr hj))).trans' (hks.mono fun j hj => Or.inl (Or.inl hj))
        have hkeep : ∀ {b2 e s n : Nat} {v : Value} {xs : List Value}, w5.ownsRow b2 e s v n xs → e ≠ 50 → e ≠ 47 → wz.ownsRow b2 e s v n xs := fun ho h1 h2 => hkt.own ho fun j hj e => by
          rcases e with e | e
          · exact hnotbx ho h1 j hj e
          · obtain ⟨cur, q⟩ := own_obj Hv1.out e
            exact h2 (own_type_blk ho hj (show Blk w5 j _ cur from q))
        have hv10 : wz.ownsRow (w.heap.size + 1) 47 1 (.slice A10 (i - 1 + 1) c10) (i - 1 + 1) (vs ++ [.slice A5 L.length c5]) := hks.own Hown4.out fun j hj e => by
          have := (Hown4.out.lt j hj).1
          omega
        have hvl : vs.length = i - 1 := by
          have := Hv1.out.1
          simpa using this
        have hpi6 := Lib.hid (show PlI w F (i + 1) wz from by
          refine ⟨⟨_, _, _, hbz, fun h => by omega, fun L' _ hL' => hkeep (HbL.out L' (by omega) hL') (by decide) (by decide), by rw [show i + 1 - 1 = i - 1 + 1 by omega]; exact hv10, fun j v L' hv' hL' => ?_⟩, ((Keep.grow Hgr5.out).trans' hkt).below (fun j hj => by
            rcases hj with h | h
            · omega
            · have := (Hv1.out.lt j h).1
              omega) (Nat.le_refl _)⟩
          rcases Nat.lt_or_ge j vs.length with hj | hj
          · rw [List.getElem?_append_left hj] at hv'
            exact hkeep (Hvs.out j v L' hv' hL') (by decide) (by decide)
          · have hje : j = vs.length := by
              have := (List.getElem?_eq_some_iff.1 hv').1
              simp only [List.length_append, List.length_cons, List.length_nil] at this
              omega
            rw [List.getElem?_append_right hj, hje, Nat.sub_self] at hv'
            injection hv' with hv'
            rw [← hv']
            have h0 := HFi.out
            rw [show j + 1 = i by omega, h0] at hL'
            injection hL' with hL'
            rw [← hL']
            exact hkeep Ho5.out (by decide) (by decide))
        have hrow6 := Lib.hid (hkeep Hrow5.out (by decide) (by decide))
        rw [hwz]
        clear hwz hks hbz hkt hkeep hv10
        go_roundw
        case rel => exact ⟨i + 1, by omega, by go_num, hpi6, hrow6⟩
        case measure => simp only [intOf]; omega
    · obtain rfl : i = m := by omega
      have d1 : decide ((i : Int) < (i : Int)) = false := decide_eq_false (by omega)
      obtain ⟨⟨v0, v1, vs, hbx, hb0, hbL, hv1, hvs⟩, hgr⟩ := hpi.out
      have Hcol := Lib.hid (show ∀ W, wr.alloc (.cells #[v0, v1] 50) = W → Calls Try.prog 17 #[.func (.func 32) #[] #[.pointer (some ⟨wr.heap.size, 0, none⟩)]] W fun e w' => ∃ v, e = .returned v ∧ w'.ownsRow W.heap.size 33 2 v (nearF F).length (plCs (nearF F)) ∧ Grow W w' from fun W hW => by
        have hg : Grow wr W := by rw [← hW]; exact Grow.alloc _ _
        have hb : Blk W wr.heap.size 50 #[v0, v1] := by rw [← hW]; exact Blk.new _ _ _
        obtain ⟨A1, c1, rfl, hoth⟩ : ∃ A1 c1, v1 = .slice A1 (i - 1) c1 ∧ OthersAt W W.heap.size A1 (i - 1) (F.drop 1) := by
          obtain ⟨A1, c1, e1, -, -, hR⟩ := own_reads hv1
          have hvl : vs.length = i - 1 := by
            have := hv1.1
            simpa using this
          have hFl : F.length = i := by rw [HF.out, List.length_map, ← Hm.out]
          refine ⟨A1, c1, e1, by rw [List.length_drop, hFl], fun hp => ?_⟩
          obtain ⟨b, off, e2, hb2, hcs⟩ := hR.2 hp
          refine ⟨b, off, e2, Nat.lt_of_lt_of_le hb2 hg.size, fun j L hL => ?_⟩
          rw [List.getElem?_drop, Nat.add_comm] at hL
          have hjl : j < vs.length := by
            have := (List.getElem?_eq_some_iff.1 hL).1
            omega
          obtain ⟨v, hv⟩ : ∃ v, vs[j]? = some v := ⟨_, List.getElem?_eq_getElem hjl⟩
          have ho := own_below (hvs j v L hv hL) hg
          obtain ⟨A', c', rfl, hpl⟩ := own_pls' ho rfl
          have hLf : L.length ≤ 1000000000 ∧ Up L := by
            rw [HF.out, List.getElem?_map] at hL
            cases hgj : gs[j + 1]? with
            | none => rw [hgj] at hL; cases hL
            | some g =>
              rw [hgj] at hL
              injection hL with hL
              rw [← hL]
              exact ⟨(Hfp.out _).1, (Hfp.out _).2.1⟩
          refine ⟨[.slice A' L.length c'], rfl, ⟨A', L.length, c', rfl, hLf.1, hpl, hLf.2⟩, fun k u hu => ?_⟩
          have hk0 : k = 0 := by
            have := (List.getElem?_eq_some_iff.1 hu).1
            simpa using this
          subst hk0
          injection hu with hu
          rw [← hu, Nat.mul_one, Nat.add_zero]
          have := hcs j _ hv
          exact (hg.cell (p := ⟨b, off + j, none⟩) hb2).trans this
        rcases Nat.eq_zero_or_pos i with hi0 | hi0
        · have hFn : F = [] := by
            have hFl : F.length = i := by rw [HF.out, List.length_map, ← Hm.out]
            exact List.eq_nil_of_length_eq_zero (by omega)
          obtain rfl := hb0 hi0
          have h := nCollect_any W wr.heap.size W.heap.size none 0 0 [] A1 (i - 1) c1 (F.drop 1) (by omega) (by omega) (fun x hx => by cases hx) ⟨hb, ⟨rfl, rfl, fun h => absurd h (by omega)⟩, hoth, Nat.le_refl _⟩
          rw [hFn]
          exact h
        · obtain ⟨L, hL⟩ : ∃ L, F[0]? = some L := ⟨_, List.getElem?_eq_getElem (by rw [HF.out, List.length_map, ← Hm.out]; exact hi0)⟩
          obtain ⟨A0, c0, rfl, hpl⟩ := own_pls' (own_below (hbL L hi0 hL) hg) rfl
          have hLf : L.length ≤ 1000000000 ∧ ∀ x ∈ L, x.2 ≤ 100000000 := by
            have hL2 := hL
            rw [HF.out, List.getElem?_map] at hL2
            cases hgj : gs[0]? with
            | none => rw [hgj] at hL2; cases hL2
            | some g =>
              rw [hgj] at hL2
              injection hL2 with hL2
              rw [← hL2]
              exact ⟨(Hfp.out _).1, (Hfp.out _).2.2⟩
          have h := nCollect_any W wr.heap.size W.heap.size A0 L.length c0 L A1 (i - 1) c1 (F.drop 1) hLf.1 (by omega) hLf.2 ⟨hb, hpl, hoth, Nat.le_refl _⟩
          have hFe : nearF F = L.filter (mayB (F.drop 1)) := by
            cases F with
            | nil => cases hL
            | cons a r =>
              injection hL with hL
              rw [hL]
              rfl
          rw [hFe]
          exact h)
      have Hgr := Lib.hid hgr
      have hc0 := hbx.cell 0
      have hc1 := hbx.cell 1
      clear hbx hb0 hbL hv1 hvs hgr
      obtain ⟨W, hW⟩ : ∃ W, wr.alloc (.cells #[v0, v1] 50) = W := ⟨_, rfl⟩
      have Hcol2 := Lib.hid (Hcol.out W hW)
      have HgW := Lib.hid (show Grow wr W by rw [← hW]; exact Grow.alloc _ _)
      clear Hcol
      go_wp2_with (go_at_call 18; refine (nall_any _ _ _).mono ?_; rintro e w' ⟨rfl, rfl⟩)
      refine Hcol2.out.mono ?_
      rintro e w' ⟨v, rfl, ho, hg⟩
      have Ho := Lib.hid ho
      have Hg := Lib.hid hg
      clear ho hg
      go_wp2_with fail
      go_ret
      have hgt := Hgr.out.trans HgW.out
      exact ⟨v, rfl, own_base Ho.out hgt.size, hgt.trans Hg.out⟩
end Go.Proofs.Ytamdejidkgnaeaa
