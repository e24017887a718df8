/-
  The walk of gram's Places: each gram's text and its places.
-/
import Derived.Test.YtfjnjlcmikhehaaGreatGramOut
import Derived.Deep.MidRow
import Derived.Deep.CutBlock
namespace Go.Proofs.YtfjnjlcmikhehaaGreat
open Go.RowKit Go.Shelf GramM
set_option linter.unusedVariables false
/-- what stands at the grams of a map -/
structure ValsOf (W : World) (base Mp : Nat) (ks : List Gr) (f : Gr → List Nat) (F : Gr → Value) : Prop where
  lt : Mp < W.heap.size
  look : ∀ g ∈ ks, ∀ (S : Nat → Prop) (W' : World), Keep S W W' → ¬ S Mp → (Instr.lookup 46 (.map (some Mp)) (gv g) false).run Tryz.prog W' = .ok (F g) W'
  own : ∀ g ∈ ks, W.ownsRow base 44 2 (F g) (f g).length (plC (f g))
  apart : ∀ g ∈ ks, ∀ h ∈ ks, g ≠ h → ∀ b, (F g).ownBlock = some b → (F h).ownBlock ≠ some b
theorem MapOf.vals {W : World} {base Mp : Nat} {ks : List Gr} {f : Gr → List Nat} (h : MapOf W base Mp ks f) : ∃ F, ValsOf W base Mp ks f F := by
  obtain ⟨es, h1, h2, h3, h4⟩ := h
  have hn : (es.map (·.1)).Nodup := by
    obtain ⟨_, _, _, _, hn⟩ := h1
    exact hn
  have hin : ∀ g ∈ ks, ∃ v, (g, v) ∈ es ∧ atG es g = some v := fun g hg => by
    rw [← h2] at hg
    obtain ⟨⟨g0, v⟩, hm, rfl⟩ := List.mem_map.1 hg
    exact ⟨v, hm, atG_of hn hm⟩
  refine ⟨fun g => (atG es g).getD (.slice none 0 0), h1.lt, fun g hg S W' hk hS => ?_, fun g hg => ?_, fun g hg h hh hne b hb1 hb2 => ?_⟩
  · obtain ⟨v, hm, hv⟩ := hin g hg
    exact run_lookup_gram (h1.keep hk hS) g false
  · obtain ⟨v, hm, hv⟩ := hin g hg
    show World.ownsRow _ _ _ _ ((atG es g).getD (.slice none 0 0)) _ _
    rw [hv]
    exact h3 g v hm
  · obtain ⟨v, hm, hv⟩ := hin g hg
    obtain ⟨u, hm2, hu⟩ := hin h hh
    simp only [hv, hu, Option.getD_some] at hb1 hb2
    exact h4 g v h u b hm hm2 hne hb1 hb2
/-- the cells of postings -/
def poC (F : Gr → Value) (Q : List Gr) : List Value := Q.flatMap fun g : Gr => [.string (grS g), F g]
theorem poC_snoc (F : Gr → Value) (Q : List Gr) (g : Gr) : poC F (Q ++ [g]) = poC F Q ++ [.string (grS g), F g] := by simp [poC]
/-- one new element is put behind a row -/
def rowW (w0 : World) (l : Value) (base : Nat) (ty : TypeId) (s n : Nat) (xs : List Value) : List Value → World → Prop
  | [], w => Grow w0 w
  | [v], w => w.ownsRow base ty s v n xs ∧ Keep (fun j => l.ownBlock = some j) w0 w
  | _, _ => False
theorem rowW.grow {w0 : World} {l : Value} {base : Nat} {ty : TypeId} {s n : Nat} {xs : List Value} : ∀ (vals : List Value) (x y : World), Grow x y → rowW w0 l base ty s n xs vals x → rowW w0 l base ty s n xs vals y
  | [], _, _, g, h => Grow.trans h g
  | [_], _, _, g, ⟨h1, h2⟩ => ⟨own_below h1 g, h2.trans' (Keep.grow g)⟩
  | _ :: _ :: _, _, _, _, h => h
/-- what Places tells -/
def PostsTo (w : World) (gs : List Gr) (e : Ending) (w' : World) : Prop :=
  ∃ (v : Value) (F : Gr → Value), e = .returned v ∧ Grow w w' ∧ w'.ownsRow w.heap.size 42 2 v (sortG (firsts [] gs)).length (poC F (sortG (firsts [] gs))) ∧
    (∀ g ∈ firsts [] gs, w'.ownsRow w.heap.size 44 2 (F g) (posOf gs g gs.length).length (plC (posOf gs g gs.length))) ∧
    (∀ g ∈ firsts [] gs, ∀ h ∈ firsts [] gs, g ≠ h → ∀ b, (F g).ownBlock = some b → (F h).ownBlock ≠ some b)
set_option maxRecDepth 100000 in
set_option maxHeartbeats 4000000 in
theorem posts_any (hsort : SortsG) (w : World) (B : Nat) (A : Option Addr) (n c : Nat) (b : List UInt8) (hb : BytesAt w B A n b) (hB : B ≤ w.heap.size) (hnc : n ≤ c) (hcm : c ≤ maxLen) (hn : n ≤ 1099511627776) :
    Calls Tryz.prog 9 #[.slice A n c] w (PostsTo w (grams b)) := by
  have postTy : AppTy Tryz.prog 28 42 (.agg #[.string .empty, .slice none 0 0]) 2 40 := AppTy.mk' Tryz.underlying28 (by kernel_rfl) rfl (by decide)
  have Hp := Lib.hid (gplaces_any hsort w B A n c b hb hB hnc hcm hn)
  have hfl : (firsts [] (grams b)).length ≤ n := by
    refine Nat.le_trans (firsts_len _ _) ?_
    rw [grams_len, hb.len]
    simp only [List.length_nil]
    omega
  obtain ⟨gs, hgs⟩ : ∃ gs, gs = grams b := ⟨_, rfl⟩
  obtain ⟨L, hL⟩ : ∃ L, L = firsts [] gs := ⟨_, rfl⟩
  have hLs := sortG_len L
  have Hin := Lib.hid (show ∀ g ∈ sortG L, g ∈ L from fun g hg => (sortG_perm L).mem_iff.1 hg)
  have Hpl := Lib.hid (show ∀ e w', PlTo w (grams b) e w' → ∃ v F, e = .returned (.tuple #[.map (some w.heap.size), v]) ∧ Grow w w' ∧ w'.ownsRow (w.heap.size + 3) 51 3 v (sortG L).length (grC (sortG L)) ∧ ValsOf w' (w.heap.size + 3) w.heap.size L (fun g => posOf gs g gs.length) F from fun e w' h => by
    rw [← hgs] at h
    obtain ⟨v, h1, h2, h4, h3⟩ := h
    rw [hL, sortG_len]
    obtain ⟨F, hF⟩ := h4.vals
    exact ⟨v, F, h1, h2, h3, hF⟩)
  have Hpost := Lib.hid (show ∀ e w', (∃ (v : Value) (F : Gr → Value), e = .returned v ∧ Grow w w' ∧ w'.ownsRow w.heap.size 42 2 v (sortG L).length (poC F (sortG L)) ∧
    (∀ g ∈ L, w'.ownsRow w.heap.size 44 2 (F g) (posOf gs g gs.length).length (plC (posOf gs g gs.length))) ∧
    (∀ g ∈ L, ∀ h ∈ L, g ≠ h → ∀ b, (F g).ownBlock = some b → (F h).ownBlock ≠ some b)) → PostsTo w (grams b) e w' from fun e w' h => by
    rw [← hgs]
    unfold PostsTo
    rw [← hL]
    exact h)
  rw [← hgs, ← hL] at hfl
  refine Calls.mono ?_ Hpost.out
  obtain ⟨Q, hQ⟩ : ∃ Q, Q = sortG L := ⟨_, rfl⟩
  rw [← hQ] at Hpl hLs Hin ⊢
  rw [← hLs] at hfl
  have Hf := Lib.hid (show ∀ g, (posOf gs g gs.length).length ≤ gs.length from fun g => posOf_len _ _ _)
  have Hgl := Lib.hid (show gs.length ≤ n by rw [hgs, grams_len, hb.len]; omega)
  obtain ⟨f, hf⟩ : ∃ f : Gr → List Nat, f = fun g => posOf gs g gs.length := ⟨_, rfl⟩
  have Hfe := Lib.hid (show ∀ g, posOf gs g gs.length = f g from fun g => by rw [hf])
  simp only [Hfe.out] at Hpl Hpost Hf ⊢
  clear hQ hLs hL hb hB hnc hcm hsort hgs hf Hfe Hpost
  go_enter Tryz.func9, Tryz.ntmps9
  go_wp2_with (go_at_call 21; refine Hp.out.mono ?_; intro e w1 hp; obtain ⟨v, F, rfl, hg1, ho1, hv1⟩ := Hpl.out _ _ hp; clear hp; obtain ⟨A1, c1, rfl, hnc1, hcm1, hr1⟩ := own_reads ho1)
  have Hg1 := Lib.hid hg1
  have Hr1 := Lib.hid hr1
  have Hv1 := Lib.hid hv1
  obtain ⟨m, hm⟩ : ∃ m, m = Q.length := ⟨_, rfl⟩
  rw [← hm] at hfl hnc1 Hr1 ⊢
  have Hm := Lib.hid hm
  have Hmp := Lib.hid (show w.heap.size < w1.heap.size from hv1.lt)
  clear hm hg1 hr1 ho1 hv1 Hpl Hp
  go_loopw [2, 14] (fun v2 v14 wr => ∃ (k : Nat) (u : Value), k ≤ m ∧ u = v2 ∧ v14 = .int .i64 (k : Int) ∧ Hid (wr.ownsRow w1.heap.size 42 2 u (Q.take k).length (poC F (Q.take k))) ∧ Hid (Grow w1 wr)) (fun _ v14 _ => m - (intOf v14).toNat)
  case atStart => exact ⟨0, _, by omega, rfl, rfl, World.ownsRow_nil _ _ _ _, Grow.refl _⟩
  case round =>
    obtain ⟨k, u, hk, rfl, rfl, ho, hg⟩ := hrel
    by_cases hlt : k < m
    · have d1 : decide ((k : Int) < (m : Int)) = true := decide_eq_true (by omega)
      obtain ⟨⟨x, y, z⟩, hx⟩ : ∃ g, Q[k]? = some g := ⟨_, List.getElem?_eq_getElem (by rw [← Hm.out]; exact hlt)⟩
      obtain ⟨g1, g2, g3⟩ := grC_get hx
      obtain ⟨bb, off, rfl, hbb, hcs⟩ := (Hr1.out.below hg.out).2 (by omega)
      have hc1 : wr.cell? ⟨bb, off + k * 3, none⟩ = some (.int .u8 (x.toNat : Int)) := hcs _ _ g1
      have hc2 : wr.cell? ⟨bb, off + k * 3 + 1, none⟩ = some (.int .u8 (y.toNat : Int)) := hcs _ _ g2
      have hc3 : wr.cell? ⟨bb, off + k * 3 + 2, none⟩ = some (.int .u8 (z.toNat : Int)) := hcs _ _ g3
      have Hs2 := Lib.hid (show poC F (Q.take (k + 1)) = poC F (Q.take k) ++ [.string ⟨#[x, y, z]⟩, F (x, y, z)] ∧ (Q.take (k + 1)).length = (Q.take k).length + 1 by
        rw [List.take_add_one, hx]
        exact ⟨poC_snoc F _ _, by simp⟩)
      have hgL := Hin.out _ (List.mem_of_getElem? hx)
      obtain ⟨A2, c2, hF, -, -, -⟩ := own_reads (Hv1.out.own _ hgL)
      have HF := Lib.hid hF
      obtain ⟨n2, hn2⟩ : ∃ n2, n2 = (f (x, y, z)).length := ⟨_, rfl⟩
      rw [← hn2] at HF
      rw [HF.out] at Hs2
      obtain ⟨R, hR⟩ : ∃ R, R = poC F (Q.take k) := ⟨_, rfl⟩
      obtain ⟨q, hq⟩ : ∃ q, q = (Q.take k).length := ⟨_, rfl⟩
      have hRl : q ≤ k := by rw [hq]; exact List.length_take_le _ _
      rw [← hR, ← hq] at ho Hs2
      obtain ⟨u3, hu3⟩ : ∃ u3, wr.alloc (.cells #[.int .u8 (x.toNat : Int), .int .u8 (y.toNat : Int), .int .u8 (z.toNat : Int)] 51) = u3 := ⟨_, rfl⟩
      have hbx : Blk u3 wr.heap.size 51 #[.int .u8 (x.toNat : Int), .int .u8 (y.toNat : Int), .int .u8 (z.toNat : Int)] := by rw [← hu3]; exact Blk.new _ _ _
      have hg3 : Grow wr u3 := by rw [← hu3]; exact Grow.alloc _ _
      have Hou := Lib.hid (own_below ho.out hg3)
      have hlS : ∀ j, u.ownBlock = some j → j < u3.heap.size := fun j h => (Hou.out.lt j h).2
      have hub : ¬ u.ownBlock = some wr.heap.size := fun e => Nat.lt_irrefl _ (ho.out.lt _ e).2
      have Hcg := Lib.hid (show ∀ w', Keep (fun j => u.ownBlock = some j) u3 w' → Blk w' wr.heap.size 51 #[.int .u8 (x.toNat : Int), .int .u8 (y.toNat : Int), .int .u8 (z.toNat : Int)] from fun w' h => h.blk hbx hub)
      have Hcv := Lib.hid (show ∀ w', Keep (fun j => u.ownBlock = some j) u3 w' → (convert 22 9 (.slice (some ⟨wr.heap.size, 0, none⟩) 3 3)).run Tryz.prog w' = .ok (.string ⟨#[x, y, z]⟩) w' from fun w' h => conv3 w' wr.heap.size 0 3 x y z ((h.blk hbx hub).cell 0) ((h.blk hbx hub).cell 1) ((h.blk hbx hub).cell 2))
      have Hlk := Lib.hid (show ∀ w', Keep (fun j => u.ownBlock = some j) u3 w' → (Instr.lookup 46 (.map (some w.heap.size)) (.agg #[.int .u8 (x.toNat : Int), .int .u8 (y.toNat : Int), .int .u8 (z.toNat : Int)]) false).run Tryz.prog w' = .ok (.slice A2 n2 c2) w' from fun w' h => by
        rw [← HF.out]
        exact Hv1.out.look (x, y, z) hgL (fun j => u.ownBlock = some j) w' ((Keep.grow (hg.out.trans hg3)).trans' h) (fun e => by
          have h1 := (Hou.out.lt _ e).1
          have h2 := Hg1.out.size
          have h3 := Hmp.out
          omega))
      have Hbz := Lib.hid (show w1.heap.size ≤ u3.heap.size from (hg.out.trans hg3).size)
      have Hgw := Lib.hid (hg.out.trans hg3)
      clear hx hR hq g1 g2 g3 hcs hbx hg3 hF hn2 hub
      go_upto_block 1 with (fail)
      go_cut [2, 6] from 16 to 26 (fun v2 v6 wx => ∃ W6 : World, W6 = wx ∧ W6.ownsRow w1.heap.size 42 2 v2 (q + 1) (R ++ [.string ⟨#[x, y, z]⟩, .slice A2 n2 c2]) ∧ Grow w1 W6)
      case first Jx Kx hJx hMx =>
        go_upto_region 5 with (fail)
        clear hu3
        refine wp_region_stages (by kernel_rfl) ?_
        refine anyOrder_pop rfl (by kernel_rfl) ?_
        refine anyOrder_start [8] (Keep (fun j => u.ownBlock = some j)) (rowW u3 u w1.heap.size 42 2 (q + 1) (R ++ [.string ⟨#[x, y, z]⟩, .slice A2 n2 c2])) (FactsOn [.is (u), .is (.slice (some ⟨wr.heap.size, 0, none⟩) 3 3), .is (.string ⟨#[x, y, z]⟩), .is (.map (some w.heap.size)), .is (.agg #[.int .u8 (x.toNat : Int), .int .u8 (y.toNat : Int), .int .u8 (z.toNat : Int)]), .is (.slice A2 n2 c2), .is (.agg #[.string ⟨#[x, y, z]⟩, .slice A2 n2 c2]), .newS1 u3.heap.size hlS 42 [.string ⟨#[x, y, z]⟩, .slice A2 n2 c2], .any]) (fun i => 99) keep_trans keep_grow (rowW.grow) (factsOn_mono _) (by kernel_rfl) (by kernel_rfl) (Grow.refl _) ?_ ?_
        · refine ⟨?_, ?_, ?_, ?_, ?_, ?_, ?_, ?_, ?_, trivial⟩
          · refine stageOf_free rfl (fun _ _ _ _ _ _ => wanted_none rfl) ?_
            intro us vals w3 a' ha hle hW hd hv K hK
            have q2 : a'.tmps[2]? = some (u) := slot_old ha (by kernel_rfl) (by kernel_rfl)
            exact step_value (w2 := w3) (by go_simp) (hK _ _ (Grow.refl _) rfl)
          · refine stageOf_free rfl (fun _ _ _ _ _ _ => wanted_none rfl) ?_
            intro us vals w3 a' ha hle hW hd hv K hK
            have q6 : a'.tmps[6]? = some (.pointer (some ⟨wr.heap.size, 0, none⟩)) := slot_old ha (by kernel_rfl) (by kernel_rfl)
            refine step_value (v := .slice (some ⟨wr.heap.size, 0, none⟩) 3 3) (w2 := w3) ?_ (hK _ _ (Grow.refl _) rfl)
            go_simp
          · refine stageOf_free rfl (fun _ _ _ _ _ _ => wanted_none rfl) ?_
            intro us vals w3 a' ha hle hW hd hv K hK
            obtain ⟨d1, _⟩ := hd
            have q19 : a'.tmps[19]? = some (us 1) := slot_get ha 1 (by kernel_rfl) (by kernel_rfl)
            rw [show us 1 = .slice (some ⟨wr.heap.size, 0, none⟩) 3 3 from d1] at q19
            have hcv := Hcv.out w3 hle
            refine step_value (v := .string ⟨#[x, y, z]⟩) (w2 := w3) ?_ (hK _ _ (Grow.refl _) rfl)
            go_simp
          · refine stageOf_free rfl (fun _ _ _ _ _ _ => wanted_none rfl) ?_
            intro us vals w3 a' ha hle hW hd hv K hK
            have q3 : a'.tmps[3]? = some (.map (some w.heap.size)) := slot_old ha (by kernel_rfl) (by kernel_rfl)
            exact step_value (w2 := w3) (by go_simp) (hK _ _ (Grow.refl _) rfl)
          · refine stageOf_free rfl (fun _ _ _ _ _ _ => wanted_none rfl) ?_
            intro us vals w3 a' ha hle hW hd hv K hK
            have q6 : a'.tmps[6]? = some (.pointer (some ⟨wr.heap.size, 0, none⟩)) := slot_old ha (by kernel_rfl) (by kernel_rfl)
            have hb := Hcg.out w3 hle
            have hc1 := hb.cell 0
            have hc2 := hb.cell 1
            have hc3 := hb.cell 2
            refine step_value (v := .agg #[.int .u8 (x.toNat : Int), .int .u8 (y.toNat : Int), .int .u8 (z.toNat : Int)]) (w2 := w3) ?_ (hK _ _ (Grow.refl _) rfl)
            go_simp
          · refine stageOf_free rfl (fun _ _ _ _ _ _ => wanted_none rfl) ?_
            intro us vals w3 a' ha hle hW hd hv K hK
            obtain ⟨d3, d4, _⟩ := hd
            have q21 : a'.tmps[21]? = some (us 3) := slot_get ha 3 (by kernel_rfl) (by kernel_rfl)
            rw [show us 3 = .map (some w.heap.size) from d3] at q21
            have q22 : a'.tmps[22]? = some (us 4) := slot_get ha 4 (by kernel_rfl) (by kernel_rfl)
            rw [show us 4 = .agg #[.int .u8 (x.toNat : Int), .int .u8 (y.toNat : Int), .int .u8 (z.toNat : Int)] from d4] at q22
            have hlk := Hlk.out w3 hle
            refine step_value (v := .slice A2 n2 c2) (w2 := w3) ?_ (hK _ _ (Grow.refl _) rfl)
            go_simp
          · refine stageOf_free rfl (fun _ _ _ _ _ _ => wanted_none rfl) ?_
            intro us vals w3 a' ha hle hW hd hv K hK
            obtain ⟨d2, d5, _⟩ := hd
            have q20 : a'.tmps[20]? = some (us 2) := slot_get ha 2 (by kernel_rfl) (by kernel_rfl)
            rw [show us 2 = .string ⟨#[x, y, z]⟩ from d2] at q20
            have q23 : a'.tmps[23]? = some (us 5) := slot_get ha 5 (by kernel_rfl) (by kernel_rfl)
            rw [show us 5 = .slice A2 n2 c2 from d5] at q23
            refine step_value (v := .agg #[.string ⟨#[x, y, z]⟩, .slice A2 n2 c2]) (w2 := w3) ?_ (hK _ _ (Grow.refl _) rfl)
            go_simp
          · refine stageOf_free rfl (fun _ _ _ _ _ _ => wanted_none rfl) ?_
            intro us vals w3 a' ha hle hW hd hv K hK
            obtain ⟨d6, _⟩ := hd
            have q24 : a'.tmps[24]? = some (us 6) := slot_get ha 6 (by kernel_rfl) (by kernel_rfl)
            rw [show us 6 = .agg #[.string ⟨#[x, y, z]⟩, .slice A2 n2 c2] from d6] at q24
            refine step_value (v := .slice (some ⟨w3.heap.size, 0, none⟩) 1 1) (w2 := w3.alloc (.cells #[.string ⟨#[x, y, z]⟩, .slice A2 n2 c2] 42)) (by go_simp) (hK _ _ (Grow.alloc _ _) ?_)
            exact ⟨_, rfl, hle.size, Blk.new _ _ _⟩
          · refine stageOf_mem (t := 0) rfl ?_
            intro us vals w3 a' ha hle hW hd hv
            obtain ⟨d0, ⟨m7, u7, z7, b7⟩, _⟩ := hd
            obtain rfl := List.eq_nil_of_length_eq_zero (Nat.le_zero.1 (show vals.length ≤ 0 from Nat.le_of_eq hv))
            refine ⟨wanted_none rfl, fun K hK => ?_⟩
            have q18 : a'.tmps[18]? = some (us 0) := slot_get ha 0 (by kernel_rfl) (by kernel_rfl)
            rw [show us 0 = u from d0] at q18
            have q25 : a'.tmps[25]? = some (us 7) := slot_get ha 7 (by kernel_rfl) (by kernel_rfl)
            rw [u7] at q25
            have hown := own_below Hou.out hW
            refine wp_append_reads w3 (.tmp 18) (.tmp 25) rfl postTy (evalT q18) hown (evalT q25) (readsB rfl b7) (by simp [Value.oneCell']) (by simp only [maxLen]; omega) (by omega) (Nat.le_trans Hbz.out hle.size) ?_
            intro v2 w4 ho hgr hat
            have hk := (Keep.grown hgr).mono (T := fun j => u.ownBlock = some j) fun j hj => Or.inl hj
            exact hK _ _ hk ⟨ho, (Keep.grow hW).trans' hk⟩
        · intro us vals w4 hle hvl hV hv hf
          obtain ⟨v1, rfl⟩ := List.length_eq_one_iff.1 hvl
          obtain ⟨ho4, hk4⟩ := hV
          have e8 : us 8 = v1 := by
            have h0 : some v1 = some (us 8) := hv 0 (by simp)
            injection h0 with h0
            exact h0.symm
          rw [← e8] at ho4
          have hG4 : Grow w1 w4 := Below.trans Hgw.out (Below.mono (hk4.below (fun j hj => (Hou.out.lt j hj).1) Hbz.out) (Nat.le_refl _))
          clear hf hv
          refine lastQ.assign (v := us 8) (s := 26) rfl (by kernel_rfl) ?_
          exact hMx _ _ (Met.intro (hJx _ _ ⟨us 8, .pointer (some ⟨wr.heap.size, 0, none⟩), .pointer (some ⟨bb, off + k * 3, none⟩), .agg #[.int .u8 (x.toNat : Int), .int .u8 (y.toNat : Int), .int .u8 (z.toNat : Int)], us 0, us 1, us 2, us 3, us 4, us 5, us 6, us 7, us 8, ⟨_, rfl, ho4, hG4⟩, by kernel_rfl⟩))
      case rest =>
        obtain ⟨W6, rfl, ho6, hG6⟩ := hcut
        have Ho6 := Lib.hid (show W6.ownsRow w1.heap.size 42 2 u2 (Q.take (k + 1)).length (poC F (Q.take (k + 1))) by
          rw [Hs2.out.1, Hs2.out.2]
          exact ho6)
        have Hg6 := Lib.hid hG6
        clear ho6 hG6 hu3 Hou hlS Hcg Hcv Hlk
        go_wp2
        go_roundw
        case rel => exact ⟨k + 1, _, by omega, rfl, by go_num, Ho6, Hg6⟩
        case measure => simp [intOf]; omega
    · have d1 : decide ((k : Int) < (m : Int)) = false := decide_eq_false (by omega)
      obtain rfl : k = m := by omega
      rw [List.take_of_length_le (Nat.le_of_eq Hm.out.symm)] at ho
      have Ho := Lib.hid (own_base ho.out Hg1.out.size)
      have Hg := Lib.hid (Hg1.out.trans hg.out)
      have Hgr := Lib.hid hg.out
      clear ho hg
      go_wp2
      go_ret
      exact ⟨_, F, rfl, Hg.out, Ho.out, fun g hgL => own_below (own_base (Hv1.out.own g hgL) (by omega)) Hgr.out, Hv1.out.apart⟩
end Go.Proofs.YtfjnjlcmikhehaaGreat
