/-
  The walk of the law GramPlaces. (printed by gen/gramplaces.py)
-/
import Derived.Test.YtfjnjlcmikhehaaGramAwake
import Derived.Test.YtfjnjlcmikhehaaGramAt
import Derived.Test.YtfjnjlcmikhehaaGramLaw
import Derived.Deep.CutBlock
import Derived.Deep.CutRange
import Derived.Deep.DeepCutAuto
import Derived.Test.YtfjnjlcmikhehaaBaseE
import Derived.Laws.Cover1
namespace Go.Proofs.Ytfjnjlcmikhehaa
open Go.RowKit Go.Shelf GramM
set_option linter.unusedVariables false
theorem poC_get {F : Gr → Value} : ∀ {Q : List Gr} {j : Nat} {g : Gr}, Q[j]? = some g → (poC F Q)[j * 2]? = some (.string (grS g)) ∧ (poC F Q)[j * 2 + 1]? = some (F g)
  | [], j, g, h => by simp at h
  | h :: t, 0, g, e => by
    injection e with e
    subst e
    exact ⟨rfl, rfl⟩
  | h :: t, j + 1, g, e => by
    have := poC_get (F := F) (Q := t) (j := j) (g := g) (by simpa using e)
    rw [show (j + 1) * 2 = j * 2 + 2 by omega]
    exact this
theorem plC_get : ∀ {l : List Nat} {j p : Nat}, l[j]? = some p → (plC l)[j * 2]? = some (.int .i64 0) ∧ (plC l)[j * 2 + 1]? = some (.int .i64 (p : Int))
  | [], j, p, h => by simp at h
  | h :: t, 0, p, e => by
    injection e with e
    subst e
    exact ⟨rfl, rfl⟩
  | h :: t, j + 1, p, e => by
    have := plC_get (l := t) (j := j) (p := p) (by simpa using e)
    rw [show (j + 1) * 2 = j * 2 + 2 by omega]
    exact this
/-- the row of what was seen -/
def rowM (gs Q : List Gr) (N i k : Nat) : Array Value := ((List.range N).map fun j => Value.bool (marked gs Q i k j)).toArray
theorem rowM_at {gs Q : List Gr} {N i k p : Nat} (h : p < N) : (rowM gs Q N i k)[p]? = some (.bool (marked gs Q i k p)) := by
  unfold rowM
  simp [h]
theorem rowM_set {gs Q : List Gr} {N i k p : Nat} {g : Gr} (hg : Q[i]? = some g) (hp : (posOf gs g gs.length)[k]? = some p) : (rowM gs Q N i k).setIfInBounds p (.bool true) = rowM gs Q N i (k + 1) := by
  unfold rowM
  rw [List.setIfInBounds_toArray]
  refine congrArg List.toArray (List.ext_getElem (by simp) fun j h1 h2 => ?_)
  rw [List.getElem_set]
  simp only [List.getElem_map, List.getElem_range]
  rw [marked_next hg hp j]
  by_cases e : p = j
  · rw [if_pos e, if_pos e.symm]
  · rw [if_neg e, if_neg (fun h => e h.symm)]
theorem rowM_row {gs Q : List Gr} {i : Nat} {g : Gr} (hg : Q[i]? = some g) : rowM gs Q gs.length i (posOf gs g gs.length).length = rowM gs Q gs.length (i + 1) 0 := by
  unfold rowM
  refine congrArg List.toArray (List.map_congr_left fun j hj => ?_)
  rw [marked_row hg j (List.mem_range.1 hj)]
theorem rowM_end (gs : List Gr) : rowM gs (sortG (firsts [] gs)) gs.length (sortG (firsts [] gs)).length 0 = (List.replicate gs.length (Value.bool true)).toArray := by
  unfold rowM
  refine congrArg List.toArray ?_
  refine List.ext_getElem (by simp) fun j h1 h2 => ?_
  have hj : j < gs.length := by simpa using h1
  simp [marked_end j hj]
theorem part_at {w : World} {B n : Nat} {A : Option Addr} {b : List UInt8} (h : BytesAt w B A n b) {x y : Nat} (hxy : x ≤ y) (hy : y ≤ n) : BytesAt w B (Option.map (fun p => p.add x) A) (y - x) ((b.drop x).take (y - x)) := by
  have hl := h.len
  refine ⟨by simp; omega, fun h0 => ?_⟩
  obtain ⟨b0, off, rfl, h1, h2⟩ := h.at_ (by omega)
  refine ⟨b0, off + x, by simp [Addr.add]; try (split <;> simp_all), h1, fun j u hu => ?_⟩
  rw [List.getElem?_map, List.getElem?_take] at hu
  split at hu
  · rw [List.getElem?_drop] at hu
    cases e : b[x + j]? with
    | none => rw [e] at hu; cases hu
    | some c =>
      rw [e] at hu
      cases hu
      rw [Nat.add_assoc]
      exact h2 _ _ e
  · cases hu
set_option maxRecDepth 100000 in
set_option maxHeartbeats 8000000 in
theorem gramPlaces_walk (w : World) (B : Nat) (A : Option Addr) (n c : Nat) (b : List UInt8) (hb : BytesAt w B A n b) (hB : B ≤ w.heap.size) (hnc : n ≤ c) (hcm : c ≤ maxLen) (i0 j0 : Int) :
    Calls Try.prog 4 #[.slice A n c, .int .i64 i0, .int .i64 j0] w fun e w' => e = .returned (.bool true) ∧ Grow w w' := by
  have boolsTy : AppTy Try.prog 40 4 (.bool false) 1 1 := AppTy.mk' Try.underlying40 (by kernel_rfl) rfl (by decide)
  have Haw := Lib.hid (awake07_any w)
  have Hb := Lib.hid hb
  have HB := Lib.hid hB
  have Hcm := Lib.hid hcm
  clear hb hB hcm
  by_cases h2000 : (2000 : Int) < (n : Int)
  · have d1 : decide ((2000 : Int) < (n : Int)) = true := decide_eq_true h2000
    go_enter Try.func4, Try.ntmps4
    go_wp2_with (go_at_call 5; refine Haw.out.mono ?_; rintro e w1 ⟨rfl, hg1⟩)
    go_ret
    exact ⟨rfl, hg1⟩
  · have d1 : decide ((2000 : Int) < (n : Int)) = false := decide_eq_false h2000
    have hn : n ≤ 2000 := by omega
    go_enter Try.func4, Try.ntmps4
    go_wp2_with fail
    refine Haw.out.mono ?_
    rintro e w1 ⟨rfl, hg1⟩
    have Hg1 := Lib.hid hg1
    clear hg1 Haw
    have hB1 : B ≤ w1.heap.size := Nat.le_trans HB.out Hg1.out.size
    have hb1 : BytesAt w1 B A n b := Hb.out.below (Below.mono Hg1.out HB.out)
    have Hpo := Lib.hid (posts_any sortsG w1 B A n c b hb1 hB1 hnc Hcm.out (by omega))
    obtain ⟨gs, hgs⟩ : ∃ gs, gs = grams b := ⟨_, rfl⟩
    have Hgr := Lib.hid (show ∀ w2, Grow w1 w2 → Calls Try.prog 10 #[.slice A n c] w2 _ from fun w2 hg => grams_any sortsG w2 B A n c b (hb1.below (Below.mono hg hB1)) (Nat.le_trans hB1 hg.size) hnc Hcm.out (by omega))
    obtain ⟨Q, hQ⟩ : ∃ Q, Q = sortG (firsts [] gs) := ⟨_, rfl⟩
    unfold PostsTo at Hpo
    rw [← hgs, ← hQ] at Hpo
    simp only [← hgs, ← hQ] at Hgr
    have HQ := Lib.hid hQ
    have Hgs := Lib.hid hgs
    have Hb1 := Lib.hid hb1
    clear hgs hQ hb1 h2000
    go_wp2_with (first | (go_at_call 9; refine Hpo.out.mono ?_; rintro e w2 ⟨v, F, rfl, hg2, ho2, hF2, hF3⟩) | (go_at_call 10; refine (Hgr.out _ hg2).mono ?_; rintro e w3 ⟨v3, rfl, hg3, ho3⟩))
    obtain ⟨N, hN⟩ : ∃ N, N = gs.length := ⟨_, rfl⟩
    have hgl : N = n - 2 := by rw [hN, Hgs.out, grams_len, Hb1.out.len]
    have hmx : max ((n : Int) - 2) 0 = (N : Int) := by omega
    have hmk : (Instr.makeSlice 40 (.int .i64 (N : Int)) (.int .i64 (N : Int))).run Try.prog w3 = .ok (.slice (some ⟨w3.heap.size, 0, none⟩) N N) (w3.alloc (.cells (List.replicate N (Value.bool false)).toArray 4)) := by
      obtain ⟨i, hi, hz, hs, hby⟩ := boolsTy.info
      have h := run_makeSlice (P := Try.prog) w3 40 4 i (.bool false) boolsTy.ht hi hz .i64 .i64 (N : Int) (N : Int) (by omega) (by omega) (by rw [hs]; simp; omega) (by rw [hby]; simp; omega) (by omega)
      rw [h, hs]
      have e1 : madeCells (Value.bool false).cells ((N : Int).toNat * 1) = (List.replicate N (Value.bool false)).toArray := by
        refine Array.toList_inj.1 ?_
        rw [Int.toNat_natCast, Nat.mul_one]
        exact toList_madeCells_one (.bool false) N
      rw [e1, Int.toNat_natCast]
    rw [hmx]
    have HN := Lib.hid hN
    have Hgl := Lib.hid hgl
    clear hN hgl hmx
    rw [hmk]
    simp only [Result.andThen]
    rw [Oper.upon_value]
    clear hmk
    obtain ⟨A1, c1, rfl, h11, h12, h13⟩ := own_reads ho2
    obtain ⟨A3, c3, rfl, h31, h32, h33⟩ := own_reads ho3
    obtain ⟨W0, hW0⟩ : ∃ W0, w3.alloc (.cells (List.replicate N (Value.bool false)).toArray 4) = W0 := ⟨_, rfl⟩
    have hgW : Grow w3 W0 := by rw [← hW0]; exact Grow.alloc _ _
    have hsW : Blk W0 w3.heap.size 4 (List.replicate N (Value.bool false)).toArray := by rw [← hW0]; exact Blk.new _ _ _
    rw [hW0]
    clear hW0
    obtain ⟨m, hm⟩ : ∃ m, m = Q.length := ⟨_, rfl⟩
    rw [← hm] at h13 h33 h11 h31 ⊢
    have H13 := Lib.hid (h13.below (hg3.trans hgW))
    have H33 := Lib.hid (h33.below hgW)
    have HF2 := Lib.hid hF2
    have HsW := Lib.hid hsW
    have HgW := Lib.hid hgW
    have Hg2 := Lib.hid hg2
    have Hg3 := Lib.hid hg3
    have Hm := Lib.hid hm
    clear h13 h33 hF2 hF3 hsW hgW hg2 hg3 ho2 ho3 hm Hpo Hgr
    go_wp2_with fail
    go_loopw [10] (fun v10 wr => ∃ i : Nat, i ≤ m ∧ v10 = .int .i64 (i : Int) ∧ Hid (Blk wr w3.heap.size 4 (rowM gs Q N i 0)) ∧ Hid (Keep (fun j => j = w3.heap.size) W0 wr)) (fun v10 _ => m - (intOf v10).toNat)
    case atStart =>
      refine ⟨0, by omega, rfl, ?_, Keep.refl _ _⟩
      have e : (List.range N).map (fun j => Value.bool (marked gs Q 0 0 j)) = List.replicate N (Value.bool false) := by
        refine List.ext_getElem (by simp) fun j h1 h2 => ?_
        simp [marked_start]
      unfold Hid rowM
      rw [e]
      exact HsW.out
    case round =>
      obtain ⟨i, hi, rfl, hs, hk⟩ := hrel
      by_cases hlt : i < m
      · have d2 : decide ((i : Int) < (m : Int)) = true := decide_eq_true (by omega)
        obtain ⟨g, hg⟩ : ∃ g, Q[i]? = some g := ⟨_, List.getElem?_eq_getElem (by rw [← Hm.out]; exact hlt)⟩
        obtain ⟨b1, o1, rfl, hb1, hx⟩ := (H13.out).2 (by omega)
        obtain ⟨b3, o3, rfl, hb3, hy⟩ := (H33.out).2 (by omega)
        have hz3 := Hg3.out.size
        have hzW := HgW.out.size
        have hne1 : b1 ≠ w3.heap.size := by omega
        have hne3 : b3 ≠ w3.heap.size := by omega
        have hb1 : b1 < W0.heap.size := by omega
        have hb3 : b3 < W0.heap.size := by omega
        have hq : ∀ j h, Q[j]? = some h → wr.cell? ⟨b1, o1 + j * 2, none⟩ = some (.string (grS h)) ∧ wr.cell? ⟨b1, o1 + j * 2 + 1, none⟩ = some (F h) ∧ wr.cell? ⟨b3, o3 + j, none⟩ = some (.string (grS h)) := fun j h hj => by
          obtain ⟨p1, p2⟩ := poC_get (F := F) hj
          have p3 : (grT Q)[j]? = some (.string (grS h)) := by unfold grT; rw [List.getElem?_map, hj]; rfl
          exact ⟨(hk.out.cell (p := ⟨b1, o1 + j * 2, none⟩) hb1 hne1).trans (hx _ _ p1), (hk.out.cell (p := ⟨b1, o1 + j * 2 + 1, none⟩) hb1 hne1).trans (hx _ _ p2), (hk.out.cell (p := ⟨b3, o3 + j, none⟩) hb3 hne3).trans (hy _ _ p3)⟩
        obtain ⟨q1, q2, q3⟩ := hq i g hg
        have hgs : g ∈ firsts [] gs := by
          have h1 : g ∈ Q := List.mem_of_getElem? hg
          rw [HQ.out] at h1
          exact (sortG_perm _).mem_iff.1 h1
        obtain ⟨A2, c2, hF, h21, h22, h23⟩ := own_reads (HF2.out g hgs)
        have hpne := posOf_some (mem_sortG.1 (by rw [← HQ.out]; exact List.mem_of_getElem? hg))
        obtain ⟨n2, hn2⟩ : ∃ n2, n2 = (posOf gs g gs.length).length := ⟨_, rfl⟩
        have hn2p : 0 < n2 := by rw [hn2]; exact List.length_pos_iff.2 hpne
        rw [← hn2] at hF h21 h23
        obtain ⟨b2, o2, rfl, hb2, hz⟩ := h23.2 (by omega)
        rw [hF] at q2
        have hn2z : n2 ≤ 9223372036854775807 := by unfold maxLen at h22; omega
        have hmz : m ≤ 9223372036854775807 := by unfold maxLen at h12; omega
        have hNz : N ≤ 2000 := by have := Hgl.out; omega
        have hlz : ((n2 : Int) == (0 : Int)) = false := by rw [beq_eq_false_iff_ne]; omega
        have htx := str_eq (grS g)
        have Hq := Lib.hid hq
        have Hcl := Lib.hid (show ∀ W, Keep (fun j => j = w3.heap.size) W0 W → W.cell? ⟨b1, o1 + i * 2, none⟩ = some (.string (grS g)) ∧ W.cell? ⟨b1, o1 + i * 2 + 1, none⟩ = some (.slice (some ⟨b2, o2, none⟩) n2 c2) ∧ W.cell? ⟨b3, o3 + i, none⟩ = some (.string (grS g)) from fun W h => by
          obtain ⟨p1, p2⟩ := poC_get (F := F) hg
          have p3 : (grT Q)[i]? = some (.string (grS g)) := by unfold grT; rw [List.getElem?_map, hg]; rfl
          rw [hF] at p2
          exact ⟨(h.cell (p := ⟨b1, o1 + i * 2, none⟩) hb1 hne1).trans (hx _ _ p1), (h.cell (p := ⟨b1, o1 + i * 2 + 1, none⟩) hb1 hne1).trans (hx _ _ p2), (h.cell (p := ⟨b3, o3 + i, none⟩) hb3 hne3).trans (hy _ _ p3)⟩)
        have hs3 := HsW.out.lt
        have hb2s : b2 < w3.heap.size := by have := Hg3.out.size; omega
        have Hpl := Lib.hid (show ∀ W, Keep (fun j => j = w3.heap.size) W0 W → ∀ (k p : Nat), (posOf gs g gs.length)[k]? = some p → W.cell? ⟨b2, o2 + k * 2, none⟩ = some (.int .i64 0) ∧ W.cell? ⟨b2, o2 + k * 2 + 1, none⟩ = some (.int .i64 (p : Int)) from fun W h k p hp => by
          obtain ⟨p1, p2⟩ := plC_get hp
          have hcc := fun (o : Nat) v (e : w2.cell? ⟨b2, o, none⟩ = some v) => (h.cell (p := ⟨b2, o, none⟩) (show b2 < W0.heap.size by omega) (show b2 ≠ w3.heap.size by omega)).trans ((HgW.out.cell (p := ⟨b2, o, none⟩) (show b2 < w3.heap.size from hb2s)).trans ((Hg3.out.cell (p := ⟨b2, o, none⟩) hb2).trans e))
          exact ⟨hcc _ _ (hz _ _ p1), hcc _ _ (hz _ _ p2)⟩)
        have Hrest := Lib.hid (And.intro hgs (And.intro hF (And.intro hn2 (And.intro hg (And.intro hb2 hz)))))
        have HC := Lib.hid (show ∀ W, Grow wr W → W.cell? ⟨b1, o1 + i * 2, none⟩ = some (.string (grS g)) ∧ W.cell? ⟨b1, o1 + i * 2 + 1, none⟩ = some (.slice (some ⟨b2, o2, none⟩) n2 c2) ∧ W.cell? ⟨b3, o3 + i, none⟩ = some (.string (grS g)) from fun W h => ⟨(h.cell (p := ⟨b1, o1 + i * 2, none⟩) (show b1 < wr.heap.size by have := hk.out.size; omega)).trans q1, (h.cell (p := ⟨b1, o1 + i * 2 + 1, none⟩) (show b1 < wr.heap.size by have := hk.out.size; omega)).trans q2, (h.cell (p := ⟨b3, o3 + i, none⟩) (show b3 < wr.heap.size by have := hk.out.size; omega)).trans q3⟩)
        have Hs := Lib.hid hs
        have Hk := Lib.hid hk
        clear hq hgs hF hn2 hg h23 hb2 hz hx hy hs hk q1 q2 q3 hne1 hne3 hz3 hzW hpne
        go_upto_region 10 with (fail)
        go_cut [79] from 37 to 79 (fun vx wx => ∃ W9 : World, W9 = wx ∧ vx = .bool false ∧ Grow wr W9)
        case first Jx Kx hJx hMx =>
          have d4 : decide ((m : Int) ≤ (i : Int)) = false := decide_eq_false (by omega)
          rcases Nat.eq_zero_or_pos i with h0 | h0
          · have d3 : decide ((0 : Int) < (i : Int)) = false := decide_eq_false (by omega)
            have H0 := Lib.hid h0
            clear h0
            refine wp_region_stages (by kernel_rfl) ?_
            refine anyOrder_start [] (Keep (fun _ => False)) ((fun _ w => Grow wr w)) (FactsOn [.is (.int .i64 ((i : Int))), .is (.bool false), .is (.bool false), .is (undef), .is (undef), .is (undef), .is (undef), .is (undef), .is (undef), .is (undef), .is (undef), .is (undef), .is (undef), .is (undef), .is (undef), .is (.bool false), .is (.bool false), .is (.int .i64 ((i : Int))), .is (.slice (some ⟨b3, o3, none⟩) m c3), .is (.int .i64 (m : Int)), .is (.bool false), .is (.bool false), .is (.bool false), .is (.slice (some ⟨b3, o3, none⟩) m c3), .is (.int .i64 ((i : Int))), .is (.pointer (some ⟨b3, o3 + i, none⟩)), .is (.string (grS g)), .is (.slice (some ⟨b1, o1, none⟩) m c1), .is (.int .i64 ((i : Int))), .is (.pointer (some ⟨b1, o1 + i * 2, none⟩)), .is (.pointer (some ⟨b1, o1 + i * 2, none⟩)), .is (.string (grS g)), .is (.bool false), .is (.bool false), .is (.bool false), .is (.slice (some ⟨b1, o1, none⟩) m c1), .is (.int .i64 ((i : Int))), .is (.pointer (some ⟨b1, o1 + i * 2, none⟩)), .is (.pointer (some ⟨b1, o1 + i * 2 + 1, none⟩)), .is (.slice (some ⟨b2, o2, none⟩) n2 c2), .is (.int .i64 (n2 : Int)), .is (.bool false), .is (.bool false)]) (fun i => 99) keep_trans keep_grow (fun _ _ _ hg h => Grow.trans h hg) (factsOn_mono _) (by kernel_rfl) (by kernel_rfl) (Grow.refl _) ?_ ?_
            · refine ⟨?_, ?_, ?_, ?_, ?_, ?_, ?_, ?_, ?_, ?_, ?_, ?_, ?_, ?_, ?_, ?_, ?_, ?_, ?_, ?_, ?_, ?_, ?_, ?_, ?_, ?_, ?_, ?_, ?_, ?_, ?_, ?_, ?_, ?_, ?_, ?_, ?_, ?_, ?_, ?_, ?_, ?_, ?_, trivial⟩
              · refine stageOf_free rfl (fun _ _ _ _ _ _ => wanted_none rfl) ?_
                intro us vals w3 a' ha hle hW hd hv K hK
                have q10 : a'.tmps[10]? = some (.int .i64 ((i : Int))) := slot_old ha (by kernel_rfl) (by kernel_rfl)
                exact step_value (w2 := w3) (by go_simp) (hK _ _ (Grow.refl _) rfl)
              · refine stageOf_free rfl (fun _ _ _ _ _ _ => wanted_none rfl) ?_
                intro us vals w3 a' ha hle hW hd hv K hK
                obtain ⟨d0, _⟩ := hd
                have q37 : a'.tmps[37]? = some (us 0) := slot_get ha 0 (by kernel_rfl) (by kernel_rfl)
                rw [show us 0 = .int .i64 ((i : Int)) from d0] at q37
                refine step_value (v := .bool false) (w2 := w3) ?_ (hK _ _ (Grow.refl _) rfl)
                go_simp
                exact H0.out
              · refine stageOf_free rfl (fun _ _ _ _ _ _ => wanted_none rfl) ?_
                intro us vals w3 a' ha hle hW hd hv K hK
                obtain ⟨d1, _⟩ := hd
                have q38 : a'.tmps[38]? = some (us 1) := slot_get ha 1 (by kernel_rfl) (by kernel_rfl)
                rw [show us 1 = .bool false from d1] at q38
                exact step_value (w2 := w3) (by go_simp) (hK _ _ (Grow.refl _) rfl)
              · refine stageOf_skip rfl (fun us vals w3 a' ha hd => ?_) (fun _ => rfl)
                obtain ⟨d2, _⟩ := hd
                have q : a'.tmps[39]? = some (us 2) := slot_get ha 2 (by kernel_rfl) (by kernel_rfl)
                rw [show us 2 = .bool false from d2] at q
                exact wanted_other rfl rfl q
              · refine stageOf_skip rfl (fun us vals w3 a' ha hd => ?_) (fun _ => rfl)
                obtain ⟨d2, _⟩ := hd
                have q : a'.tmps[39]? = some (us 2) := slot_get ha 2 (by kernel_rfl) (by kernel_rfl)
                rw [show us 2 = .bool false from d2] at q
                exact wanted_other rfl rfl q
              · refine stageOf_skip rfl (fun us vals w3 a' ha hd => ?_) (fun _ => rfl)
                obtain ⟨_, d2, _⟩ := hd
                have q : a'.tmps[39]? = some (us 2) := slot_get ha 2 (by kernel_rfl) (by kernel_rfl)
                rw [show us 2 = .bool false from d2] at q
                exact wanted_other rfl rfl q
              · refine stageOf_skip rfl (fun us vals w3 a' ha hd => ?_) (fun _ => rfl)
                obtain ⟨_, _, d2, _⟩ := hd
                have q : a'.tmps[39]? = some (us 2) := slot_get ha 2 (by kernel_rfl) (by kernel_rfl)
                rw [show us 2 = .bool false from d2] at q
                exact wanted_other rfl rfl q
              · refine stageOf_skip rfl (fun us vals w3 a' ha hd => ?_) (fun _ => rfl)
                obtain ⟨_, d2, _⟩ := hd
                have q : a'.tmps[39]? = some (us 2) := slot_get ha 2 (by kernel_rfl) (by kernel_rfl)
                rw [show us 2 = .bool false from d2] at q
                exact wanted_other rfl rfl q
              · refine stageOf_skip rfl (fun us vals w3 a' ha hd => ?_) (fun _ => rfl)
                obtain ⟨_, d2, _⟩ := hd
                have q : a'.tmps[39]? = some (us 2) := slot_get ha 2 (by kernel_rfl) (by kernel_rfl)
                rw [show us 2 = .bool false from d2] at q
                exact wanted_other rfl rfl q
              · refine stageOf_skip rfl (fun us vals w3 a' ha hd => ?_) (fun _ => rfl)
                obtain ⟨d2, _⟩ := hd
                have q : a'.tmps[39]? = some (us 2) := slot_get ha 2 (by kernel_rfl) (by kernel_rfl)
                rw [show us 2 = .bool false from d2] at q
                exact wanted_other rfl rfl q
              · refine stageOf_skip rfl (fun us vals w3 a' ha hd => ?_) (fun _ => rfl)
                obtain ⟨d2, _⟩ := hd
                have q : a'.tmps[39]? = some (us 2) := slot_get ha 2 (by kernel_rfl) (by kernel_rfl)
                rw [show us 2 = .bool false from d2] at q
                exact wanted_other rfl rfl q
              · refine stageOf_skip rfl (fun us vals w3 a' ha hd => ?_) (fun _ => rfl)
                obtain ⟨_, _, d2, _⟩ := hd
                have q : a'.tmps[39]? = some (us 2) := slot_get ha 2 (by kernel_rfl) (by kernel_rfl)
                rw [show us 2 = .bool false from d2] at q
                exact wanted_other rfl rfl q
              · refine stageOf_skip rfl (fun us vals w3 a' ha hd => ?_) (fun _ => rfl)
                obtain ⟨_, d2, _⟩ := hd
                have q : a'.tmps[39]? = some (us 2) := slot_get ha 2 (by kernel_rfl) (by kernel_rfl)
                rw [show us 2 = .bool false from d2] at q
                exact wanted_other rfl rfl q
              · refine stageOf_skip rfl (fun us vals w3 a' ha hd => ?_) (fun _ => rfl)
                obtain ⟨_, d2, _⟩ := hd
                have q : a'.tmps[39]? = some (us 2) := slot_get ha 2 (by kernel_rfl) (by kernel_rfl)
                rw [show us 2 = .bool false from d2] at q
                exact wanted_other rfl rfl q
              · refine stageOf_skip rfl (fun us vals w3 a' ha hd => ?_) (fun _ => rfl)
                obtain ⟨_, _, d2, _⟩ := hd
                have q : a'.tmps[39]? = some (us 2) := slot_get ha 2 (by kernel_rfl) (by kernel_rfl)
                rw [show us 2 = .bool false from d2] at q
                exact wanted_other rfl rfl q
              · refine stageOf_free rfl (fun _ _ _ _ _ _ => wanted_none rfl) ?_
                intro us vals w3 a' ha hle hW hd hv K hK
                obtain ⟨d2, d14, _⟩ := hd
                have q39 : a'.tmps[39]? = some (us 2) := slot_get ha 2 (by kernel_rfl) (by kernel_rfl)
                rw [show us 2 = .bool false from d2] at q39
                have q51 : a'.tmps[51]? = some (us 14) := slot_get ha 14 (by kernel_rfl) (by kernel_rfl)
                rw [show us 14 = undef from d14] at q51
                refine step_value (v := .bool false) (w2 := w3) ?_ (hK _ _ (Grow.refl _) rfl)
                go_simp
              · refine stageOf_free rfl (fun _ _ _ _ _ _ => wanted_none rfl) ?_
                intro us vals w3 a' ha hle hW hd hv K hK
                obtain ⟨d15, _, _⟩ := hd
                have q52 : a'.tmps[52]? = some (us 15) := slot_get ha 15 (by kernel_rfl) (by kernel_rfl)
                rw [show us 15 = .bool false from d15] at q52
                exact step_value (w2 := w3) (by go_simp) (hK _ _ (Grow.refl _) rfl)
              · refine stageOf_free rfl (fun us vals w3 a' ha hd => ?_) ?_
                · obtain ⟨d16, _⟩ := hd
                  have q : a'.tmps[53]? = some (us 16) := slot_get ha 16 (by kernel_rfl) (by kernel_rfl)
                  rw [show us 16 = .bool false from d16] at q
                  exact wanted_some rfl rfl q
                intro us vals w3 a' ha hle hW hd hv K hK
                have q10 : a'.tmps[10]? = some (.int .i64 ((i : Int))) := slot_old ha (by kernel_rfl) (by kernel_rfl)
                exact step_value (w2 := w3) (by go_simp) (hK _ _ (Grow.refl _) rfl)
              · refine stageOf_free rfl (fun us vals w3 a' ha hd => ?_) ?_
                · obtain ⟨d16, _⟩ := hd
                  have q : a'.tmps[53]? = some (us 16) := slot_get ha 16 (by kernel_rfl) (by kernel_rfl)
                  rw [show us 16 = .bool false from d16] at q
                  exact wanted_some rfl rfl q
                intro us vals w3 a' ha hle hW hd hv K hK
                have q8 : a'.tmps[8]? = some (.slice (some ⟨b3, o3, none⟩) m c3) := slot_old ha (by kernel_rfl) (by kernel_rfl)
                exact step_value (w2 := w3) (by go_simp) (hK _ _ (Grow.refl _) rfl)
              · refine stageOf_free rfl (fun us vals w3 a' ha hd => ?_) ?_
                · obtain ⟨_, d16, _⟩ := hd
                  have q : a'.tmps[53]? = some (us 16) := slot_get ha 16 (by kernel_rfl) (by kernel_rfl)
                  rw [show us 16 = .bool false from d16] at q
                  exact wanted_some rfl rfl q
                intro us vals w3 a' ha hle hW hd hv K hK
                obtain ⟨d18, _, _⟩ := hd
                have q55 : a'.tmps[55]? = some (us 18) := slot_get ha 18 (by kernel_rfl) (by kernel_rfl)
                rw [show us 18 = .slice (some ⟨b3, o3, none⟩) m c3 from d18] at q55
                refine step_value (v := .int .i64 (m : Int)) (w2 := w3) ?_ (hK _ _ (Grow.refl _) rfl)
                go_simp
              · refine stageOf_free rfl (fun us vals w3 a' ha hd => ?_) ?_
                · obtain ⟨_, _, d16, _⟩ := hd
                  have q : a'.tmps[53]? = some (us 16) := slot_get ha 16 (by kernel_rfl) (by kernel_rfl)
                  rw [show us 16 = .bool false from d16] at q
                  exact wanted_some rfl rfl q
                intro us vals w3 a' ha hle hW hd hv K hK
                obtain ⟨d17, d19, _, _⟩ := hd
                have q54 : a'.tmps[54]? = some (us 17) := slot_get ha 17 (by kernel_rfl) (by kernel_rfl)
                rw [show us 17 = .int .i64 ((i : Int)) from d17] at q54
                have q56 : a'.tmps[56]? = some (us 19) := slot_get ha 19 (by kernel_rfl) (by kernel_rfl)
                rw [show us 19 = .int .i64 (m : Int) from d19] at q56
                refine step_value (v := .bool false) (w2 := w3) ?_ (hK _ _ (Grow.refl _) rfl)
                go_simp
              · refine stageOf_free rfl (fun _ _ _ _ _ _ => wanted_none rfl) ?_
                intro us vals w3 a' ha hle hW hd hv K hK
                obtain ⟨d16, d20, _⟩ := hd
                have q53 : a'.tmps[53]? = some (us 16) := slot_get ha 16 (by kernel_rfl) (by kernel_rfl)
                rw [show us 16 = .bool false from d16] at q53
                have q57 : a'.tmps[57]? = some (us 20) := slot_get ha 20 (by kernel_rfl) (by kernel_rfl)
                rw [show us 20 = .bool false from d20] at q57
                refine step_value (v := .bool false) (w2 := w3) ?_ (hK _ _ (Grow.refl _) rfl)
                go_simp
              · refine stageOf_free rfl (fun _ _ _ _ _ _ => wanted_none rfl) ?_
                intro us vals w3 a' ha hle hW hd hv K hK
                obtain ⟨d21, _, _⟩ := hd
                have q58 : a'.tmps[58]? = some (us 21) := slot_get ha 21 (by kernel_rfl) (by kernel_rfl)
                rw [show us 21 = .bool false from d21] at q58
                exact step_value (w2 := w3) (by go_simp) (hK _ _ (Grow.refl _) rfl)
              · refine stageOf_free rfl (fun us vals w3 a' ha hd => ?_) ?_
                · obtain ⟨d22, _⟩ := hd
                  have q : a'.tmps[59]? = some (us 22) := slot_get ha 22 (by kernel_rfl) (by kernel_rfl)
                  rw [show us 22 = .bool false from d22] at q
                  exact wanted_some rfl rfl q
                intro us vals w3 a' ha hle hW hd hv K hK
                have q8 : a'.tmps[8]? = some (.slice (some ⟨b3, o3, none⟩) m c3) := slot_old ha (by kernel_rfl) (by kernel_rfl)
                exact step_value (w2 := w3) (by go_simp) (hK _ _ (Grow.refl _) rfl)
              · refine stageOf_free rfl (fun us vals w3 a' ha hd => ?_) ?_
                · obtain ⟨d22, _⟩ := hd
                  have q : a'.tmps[59]? = some (us 22) := slot_get ha 22 (by kernel_rfl) (by kernel_rfl)
                  rw [show us 22 = .bool false from d22] at q
                  exact wanted_some rfl rfl q
                intro us vals w3 a' ha hle hW hd hv K hK
                have q10 : a'.tmps[10]? = some (.int .i64 ((i : Int))) := slot_old ha (by kernel_rfl) (by kernel_rfl)
                exact step_value (w2 := w3) (by go_simp) (hK _ _ (Grow.refl _) rfl)
              · refine stageOf_free rfl (fun us vals w3 a' ha hd => ?_) ?_
                · obtain ⟨_, _, d22, _⟩ := hd
                  have q : a'.tmps[59]? = some (us 22) := slot_get ha 22 (by kernel_rfl) (by kernel_rfl)
                  rw [show us 22 = .bool false from d22] at q
                  exact wanted_some rfl rfl q
                intro us vals w3 a' ha hle hW hd hv K hK
                obtain ⟨d23, d24, _, _⟩ := hd
                have q60 : a'.tmps[60]? = some (us 23) := slot_get ha 23 (by kernel_rfl) (by kernel_rfl)
                rw [show us 23 = .slice (some ⟨b3, o3, none⟩) m c3 from d23] at q60
                have q61 : a'.tmps[61]? = some (us 24) := slot_get ha 24 (by kernel_rfl) (by kernel_rfl)
                rw [show us 24 = .int .i64 ((i : Int)) from d24] at q61
                refine step_value (v := .pointer (some ⟨b3, o3 + i, none⟩)) (w2 := w3) ?_ (hK _ _ (Grow.refl _) rfl)
                go_simp
                (try (intro h; omega))
              · refine stageOf_free rfl (fun us vals w3 a' ha hd => ?_) ?_
                · obtain ⟨_, d22, _⟩ := hd
                  have q : a'.tmps[59]? = some (us 22) := slot_get ha 22 (by kernel_rfl) (by kernel_rfl)
                  rw [show us 22 = .bool false from d22] at q
                  exact wanted_some rfl rfl q
                intro us vals w3 a' ha hle hW hd hv K hK
                obtain ⟨d25, _, _⟩ := hd
                have q62 : a'.tmps[62]? = some (us 25) := slot_get ha 25 (by kernel_rfl) (by kernel_rfl)
                rw [show us 25 = .pointer (some ⟨b3, o3 + i, none⟩) from d25] at q62
                have hc := (HC.out w3 hW).2.2
                refine step_value (v := .string (grS g)) (w2 := w3) ?_ (hK _ _ (Grow.refl _) rfl)
                go_simp
              · refine stageOf_free rfl (fun us vals w3 a' ha hd => ?_) ?_
                · obtain ⟨d22, _⟩ := hd
                  have q : a'.tmps[59]? = some (us 22) := slot_get ha 22 (by kernel_rfl) (by kernel_rfl)
                  rw [show us 22 = .bool false from d22] at q
                  exact wanted_some rfl rfl q
                intro us vals w3 a' ha hle hW hd hv K hK
                have q7 : a'.tmps[7]? = some (.slice (some ⟨b1, o1, none⟩) m c1) := slot_old ha (by kernel_rfl) (by kernel_rfl)
                exact step_value (w2 := w3) (by go_simp) (hK _ _ (Grow.refl _) rfl)
              · refine stageOf_free rfl (fun us vals w3 a' ha hd => ?_) ?_
                · obtain ⟨d22, _⟩ := hd
                  have q : a'.tmps[59]? = some (us 22) := slot_get ha 22 (by kernel_rfl) (by kernel_rfl)
                  rw [show us 22 = .bool false from d22] at q
                  exact wanted_some rfl rfl q
                intro us vals w3 a' ha hle hW hd hv K hK
                have q10 : a'.tmps[10]? = some (.int .i64 ((i : Int))) := slot_old ha (by kernel_rfl) (by kernel_rfl)
                exact step_value (w2 := w3) (by go_simp) (hK _ _ (Grow.refl _) rfl)
              · refine stageOf_free rfl (fun us vals w3 a' ha hd => ?_) ?_
                · obtain ⟨_, _, d22, _⟩ := hd
                  have q : a'.tmps[59]? = some (us 22) := slot_get ha 22 (by kernel_rfl) (by kernel_rfl)
                  rw [show us 22 = .bool false from d22] at q
                  exact wanted_some rfl rfl q
                intro us vals w3 a' ha hle hW hd hv K hK
                obtain ⟨d27, d28, _, _⟩ := hd
                have q64 : a'.tmps[64]? = some (us 27) := slot_get ha 27 (by kernel_rfl) (by kernel_rfl)
                rw [show us 27 = .slice (some ⟨b1, o1, none⟩) m c1 from d27] at q64
                have q65 : a'.tmps[65]? = some (us 28) := slot_get ha 28 (by kernel_rfl) (by kernel_rfl)
                rw [show us 28 = .int .i64 ((i : Int)) from d28] at q65
                refine step_value (v := .pointer (some ⟨b1, o1 + i * 2, none⟩)) (w2 := w3) ?_ (hK _ _ (Grow.refl _) rfl)
                go_simp
                (try (intro h; omega))
              · refine stageOf_free rfl (fun us vals w3 a' ha hd => ?_) ?_
                · obtain ⟨_, d22, _⟩ := hd
                  have q : a'.tmps[59]? = some (us 22) := slot_get ha 22 (by kernel_rfl) (by kernel_rfl)
                  rw [show us 22 = .bool false from d22] at q
                  exact wanted_some rfl rfl q
                intro us vals w3 a' ha hle hW hd hv K hK
                obtain ⟨d29, _, _⟩ := hd
                have q66 : a'.tmps[66]? = some (us 29) := slot_get ha 29 (by kernel_rfl) (by kernel_rfl)
                rw [show us 29 = .pointer (some ⟨b1, o1 + i * 2, none⟩) from d29] at q66
                refine step_value (v := .pointer (some ⟨b1, o1 + i * 2, none⟩)) (w2 := w3) ?_ (hK _ _ (Grow.refl _) rfl)
                go_simp
                (try (intro h; omega))
              · refine stageOf_free rfl (fun us vals w3 a' ha hd => ?_) ?_
                · obtain ⟨_, d22, _⟩ := hd
                  have q : a'.tmps[59]? = some (us 22) := slot_get ha 22 (by kernel_rfl) (by kernel_rfl)
                  rw [show us 22 = .bool false from d22] at q
                  exact wanted_some rfl rfl q
                intro us vals w3 a' ha hle hW hd hv K hK
                obtain ⟨d30, _, _⟩ := hd
                have q67 : a'.tmps[67]? = some (us 30) := slot_get ha 30 (by kernel_rfl) (by kernel_rfl)
                rw [show us 30 = .pointer (some ⟨b1, o1 + i * 2, none⟩) from d30] at q67
                have hc := (HC.out w3 hW).1
                refine step_value (v := .string (grS g)) (w2 := w3) ?_ (hK _ _ (Grow.refl _) rfl)
                go_simp
              · refine stageOf_free rfl (fun us vals w3 a' ha hd => ?_) ?_
                · obtain ⟨_, _, d22, _⟩ := hd
                  have q : a'.tmps[59]? = some (us 22) := slot_get ha 22 (by kernel_rfl) (by kernel_rfl)
                  rw [show us 22 = .bool false from d22] at q
                  exact wanted_some rfl rfl q
                intro us vals w3 a' ha hle hW hd hv K hK
                obtain ⟨d26, d31, _, _⟩ := hd
                have q63 : a'.tmps[63]? = some (us 26) := slot_get ha 26 (by kernel_rfl) (by kernel_rfl)
                rw [show us 26 = .string (grS g) from d26] at q63
                have q68 : a'.tmps[68]? = some (us 31) := slot_get ha 31 (by kernel_rfl) (by kernel_rfl)
                rw [show us 31 = .string (grS g) from d31] at q68
                refine step_value (v := .bool false) (w2 := w3) ?_ (hK _ _ (Grow.refl _) rfl)
                go_simp
              · refine stageOf_free rfl (fun _ _ _ _ _ _ => wanted_none rfl) ?_
                intro us vals w3 a' ha hle hW hd hv K hK
                obtain ⟨d22, d32, _⟩ := hd
                have q59 : a'.tmps[59]? = some (us 22) := slot_get ha 22 (by kernel_rfl) (by kernel_rfl)
                rw [show us 22 = .bool false from d22] at q59
                have q69 : a'.tmps[69]? = some (us 32) := slot_get ha 32 (by kernel_rfl) (by kernel_rfl)
                rw [show us 32 = .bool false from d32] at q69
                refine step_value (v := .bool false) (w2 := w3) ?_ (hK _ _ (Grow.refl _) rfl)
                go_simp
              · refine stageOf_free rfl (fun _ _ _ _ _ _ => wanted_none rfl) ?_
                intro us vals w3 a' ha hle hW hd hv K hK
                obtain ⟨d33, _, _⟩ := hd
                have q70 : a'.tmps[70]? = some (us 33) := slot_get ha 33 (by kernel_rfl) (by kernel_rfl)
                rw [show us 33 = .bool false from d33] at q70
                exact step_value (w2 := w3) (by go_simp) (hK _ _ (Grow.refl _) rfl)
              · refine stageOf_free rfl (fun us vals w3 a' ha hd => ?_) ?_
                · obtain ⟨d34, _⟩ := hd
                  have q : a'.tmps[71]? = some (us 34) := slot_get ha 34 (by kernel_rfl) (by kernel_rfl)
                  rw [show us 34 = .bool false from d34] at q
                  exact wanted_some rfl rfl q
                intro us vals w3 a' ha hle hW hd hv K hK
                have q7 : a'.tmps[7]? = some (.slice (some ⟨b1, o1, none⟩) m c1) := slot_old ha (by kernel_rfl) (by kernel_rfl)
                exact step_value (w2 := w3) (by go_simp) (hK _ _ (Grow.refl _) rfl)
              · refine stageOf_free rfl (fun us vals w3 a' ha hd => ?_) ?_
                · obtain ⟨d34, _⟩ := hd
                  have q : a'.tmps[71]? = some (us 34) := slot_get ha 34 (by kernel_rfl) (by kernel_rfl)
                  rw [show us 34 = .bool false from d34] at q
                  exact wanted_some rfl rfl q
                intro us vals w3 a' ha hle hW hd hv K hK
                have q10 : a'.tmps[10]? = some (.int .i64 ((i : Int))) := slot_old ha (by kernel_rfl) (by kernel_rfl)
                exact step_value (w2 := w3) (by go_simp) (hK _ _ (Grow.refl _) rfl)
              · refine stageOf_free rfl (fun us vals w3 a' ha hd => ?_) ?_
                · obtain ⟨_, _, d34, _⟩ := hd
                  have q : a'.tmps[71]? = some (us 34) := slot_get ha 34 (by kernel_rfl) (by kernel_rfl)
                  rw [show us 34 = .bool false from d34] at q
                  exact wanted_some rfl rfl q
                intro us vals w3 a' ha hle hW hd hv K hK
                obtain ⟨d35, d36, _, _⟩ := hd
                have q72 : a'.tmps[72]? = some (us 35) := slot_get ha 35 (by kernel_rfl) (by kernel_rfl)
                rw [show us 35 = .slice (some ⟨b1, o1, none⟩) m c1 from d35] at q72
                have q73 : a'.tmps[73]? = some (us 36) := slot_get ha 36 (by kernel_rfl) (by kernel_rfl)
                rw [show us 36 = .int .i64 ((i : Int)) from d36] at q73
                refine step_value (v := .pointer (some ⟨b1, o1 + i * 2, none⟩)) (w2 := w3) ?_ (hK _ _ (Grow.refl _) rfl)
                go_simp
                (try (intro h; omega))
              · refine stageOf_free rfl (fun us vals w3 a' ha hd => ?_) ?_
                · obtain ⟨_, d34, _⟩ := hd
                  have q : a'.tmps[71]? = some (us 34) := slot_get ha 34 (by kernel_rfl) (by kernel_rfl)
                  rw [show us 34 = .bool false from d34] at q
                  exact wanted_some rfl rfl q
                intro us vals w3 a' ha hle hW hd hv K hK
                obtain ⟨d37, _, _⟩ := hd
                have q74 : a'.tmps[74]? = some (us 37) := slot_get ha 37 (by kernel_rfl) (by kernel_rfl)
                rw [show us 37 = .pointer (some ⟨b1, o1 + i * 2, none⟩) from d37] at q74
                refine step_value (v := .pointer (some ⟨b1, o1 + i * 2 + 1, none⟩)) (w2 := w3) ?_ (hK _ _ (Grow.refl _) rfl)
                go_simp
                (try (intro h; omega))
              · refine stageOf_free rfl (fun us vals w3 a' ha hd => ?_) ?_
                · obtain ⟨_, d34, _⟩ := hd
                  have q : a'.tmps[71]? = some (us 34) := slot_get ha 34 (by kernel_rfl) (by kernel_rfl)
                  rw [show us 34 = .bool false from d34] at q
                  exact wanted_some rfl rfl q
                intro us vals w3 a' ha hle hW hd hv K hK
                obtain ⟨d38, _, _⟩ := hd
                have q75 : a'.tmps[75]? = some (us 38) := slot_get ha 38 (by kernel_rfl) (by kernel_rfl)
                rw [show us 38 = .pointer (some ⟨b1, o1 + i * 2 + 1, none⟩) from d38] at q75
                have hc := (HC.out w3 hW).2.1
                refine step_value (v := .slice (some ⟨b2, o2, none⟩) n2 c2) (w2 := w3) ?_ (hK _ _ (Grow.refl _) rfl)
                go_simp
              · refine stageOf_free rfl (fun us vals w3 a' ha hd => ?_) ?_
                · obtain ⟨_, d34, _⟩ := hd
                  have q : a'.tmps[71]? = some (us 34) := slot_get ha 34 (by kernel_rfl) (by kernel_rfl)
                  rw [show us 34 = .bool false from d34] at q
                  exact wanted_some rfl rfl q
                intro us vals w3 a' ha hle hW hd hv K hK
                obtain ⟨d39, _, _⟩ := hd
                have q76 : a'.tmps[76]? = some (us 39) := slot_get ha 39 (by kernel_rfl) (by kernel_rfl)
                rw [show us 39 = .slice (some ⟨b2, o2, none⟩) n2 c2 from d39] at q76
                refine step_value (v := .int .i64 (n2 : Int)) (w2 := w3) ?_ (hK _ _ (Grow.refl _) rfl)
                go_simp
              · refine stageOf_free rfl (fun us vals w3 a' ha hd => ?_) ?_
                · obtain ⟨_, d34, _⟩ := hd
                  have q : a'.tmps[71]? = some (us 34) := slot_get ha 34 (by kernel_rfl) (by kernel_rfl)
                  rw [show us 34 = .bool false from d34] at q
                  exact wanted_some rfl rfl q
                intro us vals w3 a' ha hle hW hd hv K hK
                obtain ⟨d40, _, _⟩ := hd
                have q77 : a'.tmps[77]? = some (us 40) := slot_get ha 40 (by kernel_rfl) (by kernel_rfl)
                rw [show us 40 = .int .i64 (n2 : Int) from d40] at q77
                refine step_value (v := .bool false) (w2 := w3) ?_ (hK _ _ (Grow.refl _) rfl)
                go_simp
              · refine stageOf_free rfl (fun _ _ _ _ _ _ => wanted_none rfl) ?_
                intro us vals w3 a' ha hle hW hd hv K hK
                obtain ⟨d34, d41, _⟩ := hd
                have q71 : a'.tmps[71]? = some (us 34) := slot_get ha 34 (by kernel_rfl) (by kernel_rfl)
                rw [show us 34 = .bool false from d34] at q71
                have q78 : a'.tmps[78]? = some (us 41) := slot_get ha 41 (by kernel_rfl) (by kernel_rfl)
                rw [show us 41 = .bool false from d41] at q78
                refine step_value (v := .bool false) (w2 := w3) ?_ (hK _ _ (Grow.refl _) rfl)
                go_simp
            · intro us vals w3' hle hvl hV _ hf
              exact hMx _ _ (Met.intro (hJx _ _ ⟨us 0, us 1, us 2, us 3, us 4, us 5, us 6, us 7, us 8, us 9, us 10, us 11, us 12, us 13, us 14, us 15, us 16, us 17, us 18, us 19, us 20, us 21, us 22, us 23, us 24, us 25, us 26, us 27, us 28, us 29, us 30, us 31, us 32, us 33, us 34, us 35, us 36, us 37, us 38, us 39, us 40, us 41, us 42, ⟨_, rfl, hf 42 (by decide) rfl, hV⟩, by kernel_rfl⟩))
          · have d3 : decide ((0 : Int) < (i : Int)) = true := decide_eq_true (by omega)
            obtain ⟨j, hj⟩ : ∃ j, i = j + 1 := ⟨i - 1, by omega⟩
            have e5 : (i : Int) - 1 = (j : Int) := by omega
            have hjm : (j : Int) < (m : Int) := by omega
            obtain ⟨gp, hgp⟩ : ∃ g, Q[j]? = some g := ⟨_, List.getElem?_eq_getElem (by rw [← Hm.out]; omega)⟩
            have hls : Op.bytesLess (grS gp).toList (grS g).toList = true := less_text (sortG_at (gs := gs) (i := j) (j := i) (by omega) (by rw [← HQ.out]; exact hgp) (by rw [← HQ.out]; exact Hrest.out.2.2.2.1))
            have HP := Lib.hid (show ∀ W, Grow wr W → W.cell? ⟨b1, o1 + j * 2, none⟩ = some (.string (grS gp)) from fun W h => (h.cell (p := ⟨b1, o1 + j * 2, none⟩) (show b1 < wr.heap.size by have := Hk.out.size; omega)).trans (Hq.out _ _ hgp).1)
            have hjz : j ≤ 9223372036854775807 := by unfold maxLen at h12; omega
            have H0 := Lib.hid h0
            clear hj hgp h0
            refine wp_region_stages (by kernel_rfl) ?_
            refine anyOrder_start [] (Keep (fun _ => False)) ((fun _ w => Grow wr w)) (FactsOn [.is (.int .i64 ((i : Int))), .is (.bool true), .is (.bool true), .is (.slice (some ⟨b1, o1, none⟩) m c1), .is (.int .i64 ((i : Int))), .is (.int .i64 ((j : Int))), .is (.pointer (some ⟨b1, o1 + j * 2, none⟩)), .is (.pointer (some ⟨b1, o1 + j * 2, none⟩)), .is (.string (grS gp)), .is (.slice (some ⟨b1, o1, none⟩) m c1), .is (.int .i64 ((i : Int))), .is (.pointer (some ⟨b1, o1 + i * 2, none⟩)), .is (.pointer (some ⟨b1, o1 + i * 2, none⟩)), .is (.string (grS g)), .is (.bool false), .is (.bool false), .is (.bool false), .is (.int .i64 ((i : Int))), .is (.slice (some ⟨b3, o3, none⟩) m c3), .is (.int .i64 (m : Int)), .is (.bool false), .is (.bool false), .is (.bool false), .is (.slice (some ⟨b3, o3, none⟩) m c3), .is (.int .i64 ((i : Int))), .is (.pointer (some ⟨b3, o3 + i, none⟩)), .is (.string (grS g)), .is (.slice (some ⟨b1, o1, none⟩) m c1), .is (.int .i64 ((i : Int))), .is (.pointer (some ⟨b1, o1 + i * 2, none⟩)), .is (.pointer (some ⟨b1, o1 + i * 2, none⟩)), .is (.string (grS g)), .is (.bool false), .is (.bool false), .is (.bool false), .is (.slice (some ⟨b1, o1, none⟩) m c1), .is (.int .i64 ((i : Int))), .is (.pointer (some ⟨b1, o1 + i * 2, none⟩)), .is (.pointer (some ⟨b1, o1 + i * 2 + 1, none⟩)), .is (.slice (some ⟨b2, o2, none⟩) n2 c2), .is (.int .i64 (n2 : Int)), .is (.bool false), .is (.bool false)]) (fun i => 99) keep_trans keep_grow (fun _ _ _ hg h => Grow.trans h hg) (factsOn_mono _) (by kernel_rfl) (by kernel_rfl) (Grow.refl _) ?_ ?_
            · refine ⟨?_, ?_, ?_, ?_, ?_, ?_, ?_, ?_, ?_, ?_, ?_, ?_, ?_, ?_, ?_, ?_, ?_, ?_, ?_, ?_, ?_, ?_, ?_, ?_, ?_, ?_, ?_, ?_, ?_, ?_, ?_, ?_, ?_, ?_, ?_, ?_, ?_, ?_, ?_, ?_, ?_, ?_, ?_, trivial⟩
              · refine stageOf_free rfl (fun _ _ _ _ _ _ => wanted_none rfl) ?_
                intro us vals w3 a' ha hle hW hd hv K hK
                have q10 : a'.tmps[10]? = some (.int .i64 ((i : Int))) := slot_old ha (by kernel_rfl) (by kernel_rfl)
                exact step_value (w2 := w3) (by go_simp) (hK _ _ (Grow.refl _) rfl)
              · refine stageOf_free rfl (fun _ _ _ _ _ _ => wanted_none rfl) ?_
                intro us vals w3 a' ha hle hW hd hv K hK
                obtain ⟨d0, _⟩ := hd
                have q37 : a'.tmps[37]? = some (us 0) := slot_get ha 0 (by kernel_rfl) (by kernel_rfl)
                rw [show us 0 = .int .i64 ((i : Int)) from d0] at q37
                refine step_value (v := .bool true) (w2 := w3) ?_ (hK _ _ (Grow.refl _) rfl)
                go_simp
                exact H0.out
              · refine stageOf_free rfl (fun _ _ _ _ _ _ => wanted_none rfl) ?_
                intro us vals w3 a' ha hle hW hd hv K hK
                obtain ⟨d1, _⟩ := hd
                have q38 : a'.tmps[38]? = some (us 1) := slot_get ha 1 (by kernel_rfl) (by kernel_rfl)
                rw [show us 1 = .bool true from d1] at q38
                exact step_value (w2 := w3) (by go_simp) (hK _ _ (Grow.refl _) rfl)
              · refine stageOf_free rfl (fun us vals w3 a' ha hd => ?_) ?_
                · obtain ⟨d2, _⟩ := hd
                  have q : a'.tmps[39]? = some (us 2) := slot_get ha 2 (by kernel_rfl) (by kernel_rfl)
                  rw [show us 2 = .bool true from d2] at q
                  exact wanted_some rfl rfl q
                intro us vals w3 a' ha hle hW hd hv K hK
                have q7 : a'.tmps[7]? = some (.slice (some ⟨b1, o1, none⟩) m c1) := slot_old ha (by kernel_rfl) (by kernel_rfl)
                exact step_value (w2 := w3) (by go_simp) (hK _ _ (Grow.refl _) rfl)
              · refine stageOf_free rfl (fun us vals w3 a' ha hd => ?_) ?_
                · obtain ⟨d2, _⟩ := hd
                  have q : a'.tmps[39]? = some (us 2) := slot_get ha 2 (by kernel_rfl) (by kernel_rfl)
                  rw [show us 2 = .bool true from d2] at q
                  exact wanted_some rfl rfl q
                intro us vals w3 a' ha hle hW hd hv K hK
                have q10 : a'.tmps[10]? = some (.int .i64 ((i : Int))) := slot_old ha (by kernel_rfl) (by kernel_rfl)
                exact step_value (w2 := w3) (by go_simp) (hK _ _ (Grow.refl _) rfl)
              · refine stageOf_free rfl (fun us vals w3 a' ha hd => ?_) ?_
                · obtain ⟨_, d2, _⟩ := hd
                  have q : a'.tmps[39]? = some (us 2) := slot_get ha 2 (by kernel_rfl) (by kernel_rfl)
                  rw [show us 2 = .bool true from d2] at q
                  exact wanted_some rfl rfl q
                intro us vals w3 a' ha hle hW hd hv K hK
                obtain ⟨d4, _, _⟩ := hd
                have q41 : a'.tmps[41]? = some (us 4) := slot_get ha 4 (by kernel_rfl) (by kernel_rfl)
                rw [show us 4 = .int .i64 ((i : Int)) from d4] at q41
                refine step_value (v := .int .i64 (j : Int)) (w2 := w3) ?_ (hK _ _ (Grow.refl _) rfl)
                go_simp
                rw [IntKind.wrap_i64]
                omega
              · refine stageOf_free rfl (fun us vals w3 a' ha hd => ?_) ?_
                · obtain ⟨_, _, d2, _⟩ := hd
                  have q : a'.tmps[39]? = some (us 2) := slot_get ha 2 (by kernel_rfl) (by kernel_rfl)
                  rw [show us 2 = .bool true from d2] at q
                  exact wanted_some rfl rfl q
                intro us vals w3 a' ha hle hW hd hv K hK
                obtain ⟨d3, d5, _, _⟩ := hd
                have q40 : a'.tmps[40]? = some (us 3) := slot_get ha 3 (by kernel_rfl) (by kernel_rfl)
                rw [show us 3 = .slice (some ⟨b1, o1, none⟩) m c1 from d3] at q40
                have q42 : a'.tmps[42]? = some (us 5) := slot_get ha 5 (by kernel_rfl) (by kernel_rfl)
                rw [show us 5 = .int .i64 ((j : Int)) from d5] at q42
                refine step_value (v := .pointer (some ⟨b1, o1 + j * 2, none⟩)) (w2 := w3) ?_ (hK _ _ (Grow.refl _) rfl)
                go_simp
                (try (intro h; omega))
              · refine stageOf_free rfl (fun us vals w3 a' ha hd => ?_) ?_
                · obtain ⟨_, d2, _⟩ := hd
                  have q : a'.tmps[39]? = some (us 2) := slot_get ha 2 (by kernel_rfl) (by kernel_rfl)
                  rw [show us 2 = .bool true from d2] at q
                  exact wanted_some rfl rfl q
                intro us vals w3 a' ha hle hW hd hv K hK
                obtain ⟨d6, _, _⟩ := hd
                have q43 : a'.tmps[43]? = some (us 6) := slot_get ha 6 (by kernel_rfl) (by kernel_rfl)
                rw [show us 6 = .pointer (some ⟨b1, o1 + j * 2, none⟩) from d6] at q43
                refine step_value (v := .pointer (some ⟨b1, o1 + j * 2, none⟩)) (w2 := w3) ?_ (hK _ _ (Grow.refl _) rfl)
                go_simp
                (try (intro h; omega))
              · refine stageOf_free rfl (fun us vals w3 a' ha hd => ?_) ?_
                · obtain ⟨_, d2, _⟩ := hd
                  have q : a'.tmps[39]? = some (us 2) := slot_get ha 2 (by kernel_rfl) (by kernel_rfl)
                  rw [show us 2 = .bool true from d2] at q
                  exact wanted_some rfl rfl q
                intro us vals w3 a' ha hle hW hd hv K hK
                obtain ⟨d7, _, _⟩ := hd
                have q44 : a'.tmps[44]? = some (us 7) := slot_get ha 7 (by kernel_rfl) (by kernel_rfl)
                rw [show us 7 = .pointer (some ⟨b1, o1 + j * 2, none⟩) from d7] at q44
                have hc := HP.out w3 hW
                refine step_value (v := .string (grS gp)) (w2 := w3) ?_ (hK _ _ (Grow.refl _) rfl)
                go_simp
              · refine stageOf_free rfl (fun us vals w3 a' ha hd => ?_) ?_
                · obtain ⟨d2, _⟩ := hd
                  have q : a'.tmps[39]? = some (us 2) := slot_get ha 2 (by kernel_rfl) (by kernel_rfl)
                  rw [show us 2 = .bool true from d2] at q
                  exact wanted_some rfl rfl q
                intro us vals w3 a' ha hle hW hd hv K hK
                have q7 : a'.tmps[7]? = some (.slice (some ⟨b1, o1, none⟩) m c1) := slot_old ha (by kernel_rfl) (by kernel_rfl)
                exact step_value (w2 := w3) (by go_simp) (hK _ _ (Grow.refl _) rfl)
              · refine stageOf_free rfl (fun us vals w3 a' ha hd => ?_) ?_
                · obtain ⟨d2, _⟩ := hd
                  have q : a'.tmps[39]? = some (us 2) := slot_get ha 2 (by kernel_rfl) (by kernel_rfl)
                  rw [show us 2 = .bool true from d2] at q
                  exact wanted_some rfl rfl q
                intro us vals w3 a' ha hle hW hd hv K hK
                have q10 : a'.tmps[10]? = some (.int .i64 ((i : Int))) := slot_old ha (by kernel_rfl) (by kernel_rfl)
                exact step_value (w2 := w3) (by go_simp) (hK _ _ (Grow.refl _) rfl)
              · refine stageOf_free rfl (fun us vals w3 a' ha hd => ?_) ?_
                · obtain ⟨_, _, d2, _⟩ := hd
                  have q : a'.tmps[39]? = some (us 2) := slot_get ha 2 (by kernel_rfl) (by kernel_rfl)
                  rw [show us 2 = .bool true from d2] at q
                  exact wanted_some rfl rfl q
                intro us vals w3 a' ha hle hW hd hv K hK
                obtain ⟨d9, d10, _, _⟩ := hd
                have q46 : a'.tmps[46]? = some (us 9) := slot_get ha 9 (by kernel_rfl) (by kernel_rfl)
                rw [show us 9 = .slice (some ⟨b1, o1, none⟩) m c1 from d9] at q46
                have q47 : a'.tmps[47]? = some (us 10) := slot_get ha 10 (by kernel_rfl) (by kernel_rfl)
                rw [show us 10 = .int .i64 ((i : Int)) from d10] at q47
                refine step_value (v := .pointer (some ⟨b1, o1 + i * 2, none⟩)) (w2 := w3) ?_ (hK _ _ (Grow.refl _) rfl)
                go_simp
                (try (intro h; omega))
              · refine stageOf_free rfl (fun us vals w3 a' ha hd => ?_) ?_
                · obtain ⟨_, d2, _⟩ := hd
                  have q : a'.tmps[39]? = some (us 2) := slot_get ha 2 (by kernel_rfl) (by kernel_rfl)
                  rw [show us 2 = .bool true from d2] at q
                  exact wanted_some rfl rfl q
                intro us vals w3 a' ha hle hW hd hv K hK
                obtain ⟨d11, _, _⟩ := hd
                have q48 : a'.tmps[48]? = some (us 11) := slot_get ha 11 (by kernel_rfl) (by kernel_rfl)
                rw [show us 11 = .pointer (some ⟨b1, o1 + i * 2, none⟩) from d11] at q48
                refine step_value (v := .pointer (some ⟨b1, o1 + i * 2, none⟩)) (w2 := w3) ?_ (hK _ _ (Grow.refl _) rfl)
                go_simp
                (try (intro h; omega))
              · refine stageOf_free rfl (fun us vals w3 a' ha hd => ?_) ?_
                · obtain ⟨_, d2, _⟩ := hd
                  have q : a'.tmps[39]? = some (us 2) := slot_get ha 2 (by kernel_rfl) (by kernel_rfl)
                  rw [show us 2 = .bool true from d2] at q
                  exact wanted_some rfl rfl q
                intro us vals w3 a' ha hle hW hd hv K hK
                obtain ⟨d12, _, _⟩ := hd
                have q49 : a'.tmps[49]? = some (us 12) := slot_get ha 12 (by kernel_rfl) (by kernel_rfl)
                rw [show us 12 = .pointer (some ⟨b1, o1 + i * 2, none⟩) from d12] at q49
                have hc := (HC.out w3 hW).1
                refine step_value (v := .string (grS g)) (w2 := w3) ?_ (hK _ _ (Grow.refl _) rfl)
                go_simp
              · refine stageOf_free rfl (fun us vals w3 a' ha hd => ?_) ?_
                · obtain ⟨_, _, d2, _⟩ := hd
                  have q : a'.tmps[39]? = some (us 2) := slot_get ha 2 (by kernel_rfl) (by kernel_rfl)
                  rw [show us 2 = .bool true from d2] at q
                  exact wanted_some rfl rfl q
                intro us vals w3 a' ha hle hW hd hv K hK
                obtain ⟨d8, d13, _, _⟩ := hd
                have q45 : a'.tmps[45]? = some (us 8) := slot_get ha 8 (by kernel_rfl) (by kernel_rfl)
                rw [show us 8 = .string (grS gp) from d8] at q45
                have q50 : a'.tmps[50]? = some (us 13) := slot_get ha 13 (by kernel_rfl) (by kernel_rfl)
                rw [show us 13 = .string (grS g) from d13] at q50
                refine step_value (v := .bool false) (w2 := w3) ?_ (hK _ _ (Grow.refl _) rfl)
                go_simp
              · refine stageOf_free rfl (fun _ _ _ _ _ _ => wanted_none rfl) ?_
                intro us vals w3 a' ha hle hW hd hv K hK
                obtain ⟨d2, d14, _⟩ := hd
                have q39 : a'.tmps[39]? = some (us 2) := slot_get ha 2 (by kernel_rfl) (by kernel_rfl)
                rw [show us 2 = .bool true from d2] at q39
                have q51 : a'.tmps[51]? = some (us 14) := slot_get ha 14 (by kernel_rfl) (by kernel_rfl)
                rw [show us 14 = .bool false from d14] at q51
                refine step_value (v := .bool false) (w2 := w3) ?_ (hK _ _ (Grow.refl _) rfl)
                go_simp
              · refine stageOf_free rfl (fun _ _ _ _ _ _ => wanted_none rfl) ?_
                intro us vals w3 a' ha hle hW hd hv K hK
                obtain ⟨d15, _, _⟩ := hd
                have q52 : a'.tmps[52]? = some (us 15) := slot_get ha 15 (by kernel_rfl) (by kernel_rfl)
                rw [show us 15 = .bool false from d15] at q52
                exact step_value (w2 := w3) (by go_simp) (hK _ _ (Grow.refl _) rfl)
              · refine stageOf_free rfl (fun us vals w3 a' ha hd => ?_) ?_
                · obtain ⟨d16, _⟩ := hd
                  have q : a'.tmps[53]? = some (us 16) := slot_get ha 16 (by kernel_rfl) (by kernel_rfl)
                  rw [show us 16 = .bool false from d16] at q
                  exact wanted_some rfl rfl q
                intro us vals w3 a' ha hle hW hd hv K hK
                have q10 : a'.tmps[10]? = some (.int .i64 ((i : Int))) := slot_old ha (by kernel_rfl) (by kernel_rfl)
                exact step_value (w2 := w3) (by go_simp) (hK _ _ (Grow.refl _) rfl)
              · refine stageOf_free rfl (fun us vals w3 a' ha hd => ?_) ?_
                · obtain ⟨d16, _⟩ := hd
                  have q : a'.tmps[53]? = some (us 16) := slot_get ha 16 (by kernel_rfl) (by kernel_rfl)
                  rw [show us 16 = .bool false from d16] at q
                  exact wanted_some rfl rfl q
                intro us vals w3 a' ha hle hW hd hv K hK
                have q8 : a'.tmps[8]? = some (.slice (some ⟨b3, o3, none⟩) m c3) := slot_old ha (by kernel_rfl) (by kernel_rfl)
                exact step_value (w2 := w3) (by go_simp) (hK _ _ (Grow.refl _) rfl)
              · refine stageOf_free rfl (fun us vals w3 a' ha hd => ?_) ?_
                · obtain ⟨_, d16, _⟩ := hd
                  have q : a'.tmps[53]? = some (us 16) := slot_get ha 16 (by kernel_rfl) (by kernel_rfl)
                  rw [show us 16 = .bool false from d16] at q
                  exact wanted_some rfl rfl q
                intro us vals w3 a' ha hle hW hd hv K hK
                obtain ⟨d18, _, _⟩ := hd
                have q55 : a'.tmps[55]? = some (us 18) := slot_get ha 18 (by kernel_rfl) (by kernel_rfl)
                rw [show us 18 = .slice (some ⟨b3, o3, none⟩) m c3 from d18] at q55
                refine step_value (v := .int .i64 (m : Int)) (w2 := w3) ?_ (hK _ _ (Grow.refl _) rfl)
                go_simp
              · refine stageOf_free rfl (fun us vals w3 a' ha hd => ?_) ?_
                · obtain ⟨_, _, d16, _⟩ := hd
                  have q : a'.tmps[53]? = some (us 16) := slot_get ha 16 (by kernel_rfl) (by kernel_rfl)
                  rw [show us 16 = .bool false from d16] at q
                  exact wanted_some rfl rfl q
                intro us vals w3 a' ha hle hW hd hv K hK
                obtain ⟨d17, d19, _, _⟩ := hd
                have q54 : a'.tmps[54]? = some (us 17) := slot_get ha 17 (by kernel_rfl) (by kernel_rfl)
                rw [show us 17 = .int .i64 ((i : Int)) from d17] at q54
                have q56 : a'.tmps[56]? = some (us 19) := slot_get ha 19 (by kernel_rfl) (by kernel_rfl)
                rw [show us 19 = .int .i64 (m : Int) from d19] at q56
                refine step_value (v := .bool false) (w2 := w3) ?_ (hK _ _ (Grow.refl _) rfl)
                go_simp
              · refine stageOf_free rfl (fun _ _ _ _ _ _ => wanted_none rfl) ?_
                intro us vals w3 a' ha hle hW hd hv K hK
                obtain ⟨d16, d20, _⟩ := hd
                have q53 : a'.tmps[53]? = some (us 16) := slot_get ha 16 (by kernel_rfl) (by kernel_rfl)
                rw [show us 16 = .bool false from d16] at q53
                have q57 : a'.tmps[57]? = some (us 20) := slot_get ha 20 (by kernel_rfl) (by kernel_rfl)
                rw [show us 20 = .bool false from d20] at q57
                refine step_value (v := .bool false) (w2 := w3) ?_ (hK _ _ (Grow.refl _) rfl)
                go_simp
              · refine stageOf_free rfl (fun _ _ _ _ _ _ => wanted_none rfl) ?_
                intro us vals w3 a' ha hle hW hd hv K hK
                obtain ⟨d21, _, _⟩ := hd
                have q58 : a'.tmps[58]? = some (us 21) := slot_get ha 21 (by kernel_rfl) (by kernel_rfl)
                rw [show us 21 = .bool false from d21] at q58
                exact step_value (w2 := w3) (by go_simp) (hK _ _ (Grow.refl _) rfl)
              · refine stageOf_free rfl (fun us vals w3 a' ha hd => ?_) ?_
                · obtain ⟨d22, _⟩ := hd
                  have q : a'.tmps[59]? = some (us 22) := slot_get ha 22 (by kernel_rfl) (by kernel_rfl)
                  rw [show us 22 = .bool false from d22] at q
                  exact wanted_some rfl rfl q
                intro us vals w3 a' ha hle hW hd hv K hK
                have q8 : a'.tmps[8]? = some (.slice (some ⟨b3, o3, none⟩) m c3) := slot_old ha (by kernel_rfl) (by kernel_rfl)
                exact step_value (w2 := w3) (by go_simp) (hK _ _ (Grow.refl _) rfl)
              · refine stageOf_free rfl (fun us vals w3 a' ha hd => ?_) ?_
                · obtain ⟨d22, _⟩ := hd
                  have q : a'.tmps[59]? = some (us 22) := slot_get ha 22 (by kernel_rfl) (by kernel_rfl)
                  rw [show us 22 = .bool false from d22] at q
                  exact wanted_some rfl rfl q
                intro us vals w3 a' ha hle hW hd hv K hK
                have q10 : a'.tmps[10]? = some (.int .i64 ((i : Int))) := slot_old ha (by kernel_rfl) (by kernel_rfl)
                exact step_value (w2 := w3) (by go_simp) (hK _ _ (Grow.refl _) rfl)
              · refine stageOf_free rfl (fun us vals w3 a' ha hd => ?_) ?_
                · obtain ⟨_, _, d22, _⟩ := hd
                  have q : a'.tmps[59]? = some (us 22) := slot_get ha 22 (by kernel_rfl) (by kernel_rfl)
                  rw [show us 22 = .bool false from d22] at q
                  exact wanted_some rfl rfl q
                intro us vals w3 a' ha hle hW hd hv K hK
                obtain ⟨d23, d24, _, _⟩ := hd
                have q60 : a'.tmps[60]? = some (us 23) := slot_get ha 23 (by kernel_rfl) (by kernel_rfl)
                rw [show us 23 = .slice (some ⟨b3, o3, none⟩) m c3 from d23] at q60
                have q61 : a'.tmps[61]? = some (us 24) := slot_get ha 24 (by kernel_rfl) (by kernel_rfl)
                rw [show us 24 = .int .i64 ((i : Int)) from d24] at q61
                refine step_value (v := .pointer (some ⟨b3, o3 + i, none⟩)) (w2 := w3) ?_ (hK _ _ (Grow.refl _) rfl)
                go_simp
                (try (intro h; omega))
              · refine stageOf_free rfl (fun us vals w3 a' ha hd => ?_) ?_
                · obtain ⟨_, d22, _⟩ := hd
                  have q : a'.tmps[59]? = some (us 22) := slot_get ha 22 (by kernel_rfl) (by kernel_rfl)
                  rw [show us 22 = .bool false from d22] at q
                  exact wanted_some rfl rfl q
                intro us vals w3 a' ha hle hW hd hv K hK
                obtain ⟨d25, _, _⟩ := hd
                have q62 : a'.tmps[62]? = some (us 25) := slot_get ha 25 (by kernel_rfl) (by kernel_rfl)
                rw [show us 25 = .pointer (some ⟨b3, o3 + i, none⟩) from d25] at q62
                have hc := (HC.out w3 hW).2.2
                refine step_value (v := .string (grS g)) (w2 := w3) ?_ (hK _ _ (Grow.refl _) rfl)
                go_simp
              · refine stageOf_free rfl (fun us vals w3 a' ha hd => ?_) ?_
                · obtain ⟨d22, _⟩ := hd
                  have q : a'.tmps[59]? = some (us 22) := slot_get ha 22 (by kernel_rfl) (by kernel_rfl)
                  rw [show us 22 = .bool false from d22] at q
                  exact wanted_some rfl rfl q
                intro us vals w3 a' ha hle hW hd hv K hK
                have q7 : a'.tmps[7]? = some (.slice (some ⟨b1, o1, none⟩) m c1) := slot_old ha (by kernel_rfl) (by kernel_rfl)
                exact step_value (w2 := w3) (by go_simp) (hK _ _ (Grow.refl _) rfl)
              · refine stageOf_free rfl (fun us vals w3 a' ha hd => ?_) ?_
                · obtain ⟨d22, _⟩ := hd
                  have q : a'.tmps[59]? = some (us 22) := slot_get ha 22 (by kernel_rfl) (by kernel_rfl)
                  rw [show us 22 = .bool false from d22] at q
                  exact wanted_some rfl rfl q
                intro us vals w3 a' ha hle hW hd hv K hK
                have q10 : a'.tmps[10]? = some (.int .i64 ((i : Int))) := slot_old ha (by kernel_rfl) (by kernel_rfl)
                exact step_value (w2 := w3) (by go_simp) (hK _ _ (Grow.refl _) rfl)
              · refine stageOf_free rfl (fun us vals w3 a' ha hd => ?_) ?_
                · obtain ⟨_, _, d22, _⟩ := hd
                  have q : a'.tmps[59]? = some (us 22) := slot_get ha 22 (by kernel_rfl) (by kernel_rfl)
                  rw [show us 22 = .bool false from d22] at q
                  exact wanted_some rfl rfl q
                intro us vals w3 a' ha hle hW hd hv K hK
                obtain ⟨d27, d28, _, _⟩ := hd
                have q64 : a'.tmps[64]? = some (us 27) := slot_get ha 27 (by kernel_rfl) (by kernel_rfl)
                rw [show us 27 = .slice (some ⟨b1, o1, none⟩) m c1 from d27] at q64
                have q65 : a'.tmps[65]? = some (us 28) := slot_get ha 28 (by kernel_rfl) (by kernel_rfl)
                rw [show us 28 = .int .i64 ((i : Int)) from d28] at q65
                refine step_value (v := .pointer (some ⟨b1, o1 + i * 2, none⟩)) (w2 := w3) ?_ (hK _ _ (Grow.refl _) rfl)
                go_simp
                (try (intro h; omega))
              · refine stageOf_free rfl (fun us vals w3 a' ha hd => ?_) ?_
                · obtain ⟨_, d22, _⟩ := hd
                  have q : a'.tmps[59]? = some (us 22) := slot_get ha 22 (by kernel_rfl) (by kernel_rfl)
                  rw [show us 22 = .bool false from d22] at q
                  exact wanted_some rfl rfl q
                intro us vals w3 a' ha hle hW hd hv K hK
                obtain ⟨d29, _, _⟩ := hd
                have q66 : a'.tmps[66]? = some (us 29) := slot_get ha 29 (by kernel_rfl) (by kernel_rfl)
                rw [show us 29 = .pointer (some ⟨b1, o1 + i * 2, none⟩) from d29] at q66
                refine step_value (v := .pointer (some ⟨b1, o1 + i * 2, none⟩)) (w2 := w3) ?_ (hK _ _ (Grow.refl _) rfl)
                go_simp
                (try (intro h; omega))
              · refine stageOf_free rfl (fun us vals w3 a' ha hd => ?_) ?_
                · obtain ⟨_, d22, _⟩ := hd
                  have q : a'.tmps[59]? = some (us 22) := slot_get ha 22 (by kernel_rfl) (by kernel_rfl)
                  rw [show us 22 = .bool false from d22] at q
                  exact wanted_some rfl rfl q
                intro us vals w3 a' ha hle hW hd hv K hK
                obtain ⟨d30, _, _⟩ := hd
                have q67 : a'.tmps[67]? = some (us 30) := slot_get ha 30 (by kernel_rfl) (by kernel_rfl)
                rw [show us 30 = .pointer (some ⟨b1, o1 + i * 2, none⟩) from d30] at q67
                have hc := (HC.out w3 hW).1
                refine step_value (v := .string (grS g)) (w2 := w3) ?_ (hK _ _ (Grow.refl _) rfl)
                go_simp
              · refine stageOf_free rfl (fun us vals w3 a' ha hd => ?_) ?_
                · obtain ⟨_, _, d22, _⟩ := hd
                  have q : a'.tmps[59]? = some (us 22) := slot_get ha 22 (by kernel_rfl) (by kernel_rfl)
                  rw [show us 22 = .bool false from d22] at q
                  exact wanted_some rfl rfl q
                intro us vals w3 a' ha hle hW hd hv K hK
                obtain ⟨d26, d31, _, _⟩ := hd
                have q63 : a'.tmps[63]? = some (us 26) := slot_get ha 26 (by kernel_rfl) (by kernel_rfl)
                rw [show us 26 = .string (grS g) from d26] at q63
                have q68 : a'.tmps[68]? = some (us 31) := slot_get ha 31 (by kernel_rfl) (by kernel_rfl)
                rw [show us 31 = .string (grS g) from d31] at q68
                refine step_value (v := .bool false) (w2 := w3) ?_ (hK _ _ (Grow.refl _) rfl)
                go_simp
              · refine stageOf_free rfl (fun _ _ _ _ _ _ => wanted_none rfl) ?_
                intro us vals w3 a' ha hle hW hd hv K hK
                obtain ⟨d22, d32, _⟩ := hd
                have q59 : a'.tmps[59]? = some (us 22) := slot_get ha 22 (by kernel_rfl) (by kernel_rfl)
                rw [show us 22 = .bool false from d22] at q59
                have q69 : a'.tmps[69]? = some (us 32) := slot_get ha 32 (by kernel_rfl) (by kernel_rfl)
                rw [show us 32 = .bool false from d32] at q69
                refine step_value (v := .bool false) (w2 := w3) ?_ (hK _ _ (Grow.refl _) rfl)
                go_simp
              · refine stageOf_free rfl (fun _ _ _ _ _ _ => wanted_none rfl) ?_
                intro us vals w3 a' ha hle hW hd hv K hK
                obtain ⟨d33, _, _⟩ := hd
                have q70 : a'.tmps[70]? = some (us 33) := slot_get ha 33 (by kernel_rfl) (by kernel_rfl)
                rw [show us 33 = .bool false from d33] at q70
                exact step_value (w2 := w3) (by go_simp) (hK _ _ (Grow.refl _) rfl)
              · refine stageOf_free rfl (fun us vals w3 a' ha hd => ?_) ?_
                · obtain ⟨d34, _⟩ := hd
                  have q : a'.tmps[71]? = some (us 34) := slot_get ha 34 (by kernel_rfl) (by kernel_rfl)
                  rw [show us 34 = .bool false from d34] at q
                  exact wanted_some rfl rfl q
                intro us vals w3 a' ha hle hW hd hv K hK
                have q7 : a'.tmps[7]? = some (.slice (some ⟨b1, o1, none⟩) m c1) := slot_old ha (by kernel_rfl) (by kernel_rfl)
                exact step_value (w2 := w3) (by go_simp) (hK _ _ (Grow.refl _) rfl)
              · refine stageOf_free rfl (fun us vals w3 a' ha hd => ?_) ?_
                · obtain ⟨d34, _⟩ := hd
                  have q : a'.tmps[71]? = some (us 34) := slot_get ha 34 (by kernel_rfl) (by kernel_rfl)
                  rw [show us 34 = .bool false from d34] at q
                  exact wanted_some rfl rfl q
                intro us vals w3 a' ha hle hW hd hv K hK
                have q10 : a'.tmps[10]? = some (.int .i64 ((i : Int))) := slot_old ha (by kernel_rfl) (by kernel_rfl)
                exact step_value (w2 := w3) (by go_simp) (hK _ _ (Grow.refl _) rfl)
              · refine stageOf_free rfl (fun us vals w3 a' ha hd => ?_) ?_
                · obtain ⟨_, _, d34, _⟩ := hd
                  have q : a'.tmps[71]? = some (us 34) := slot_get ha 34 (by kernel_rfl) (by kernel_rfl)
                  rw [show us 34 = .bool false from d34] at q
                  exact wanted_some rfl rfl q
                intro us vals w3 a' ha hle hW hd hv K hK
                obtain ⟨d35, d36, _, _⟩ := hd
                have q72 : a'.tmps[72]? = some (us 35) := slot_get ha 35 (by kernel_rfl) (by kernel_rfl)
                rw [show us 35 = .slice (some ⟨b1, o1, none⟩) m c1 from d35] at q72
                have q73 : a'.tmps[73]? = some (us 36) := slot_get ha 36 (by kernel_rfl) (by kernel_rfl)
                rw [show us 36 = .int .i64 ((i : Int)) from d36] at q73
                refine step_value (v := .pointer (some ⟨b1, o1 + i * 2, none⟩)) (w2 := w3) ?_ (hK _ _ (Grow.refl _) rfl)
                go_simp
                (try (intro h; omega))
              · refine stageOf_free rfl (fun us vals w3 a' ha hd => ?_) ?_
                · obtain ⟨_, d34, _⟩ := hd
                  have q : a'.tmps[71]? = some (us 34) := slot_get ha 34 (by kernel_rfl) (by kernel_rfl)
                  rw [show us 34 = .bool false from d34] at q
                  exact wanted_some rfl rfl q
                intro us vals w3 a' ha hle hW hd hv K hK
                obtain ⟨d37, _, _⟩ := hd
                have q74 : a'.tmps[74]? = some (us 37) := slot_get ha 37 (by kernel_rfl) (by kernel_rfl)
                rw [show us 37 = .pointer (some ⟨b1, o1 + i * 2, none⟩) from d37] at q74
                refine step_value (v := .pointer (some ⟨b1, o1 + i * 2 + 1, none⟩)) (w2 := w3) ?_ (hK _ _ (Grow.refl _) rfl)
                go_simp
                (try (intro h; omega))
              · refine stageOf_free rfl (fun us vals w3 a' ha hd => ?_) ?_
                · obtain ⟨_, d34, _⟩ := hd
                  have q : a'.tmps[71]? = some (us 34) := slot_get ha 34 (by kernel_rfl) (by kernel_rfl)
                  rw [show us 34 = .bool false from d34] at q
                  exact wanted_some rfl rfl q
                intro us vals w3 a' ha hle hW hd hv K hK
                obtain ⟨d38, _, _⟩ := hd
                have q75 : a'.tmps[75]? = some (us 38) := slot_get ha 38 (by kernel_rfl) (by kernel_rfl)
                rw [show us 38 = .pointer (some ⟨b1, o1 + i * 2 + 1, none⟩) from d38] at q75
                have hc := (HC.out w3 hW).2.1
                refine step_value (v := .slice (some ⟨b2, o2, none⟩) n2 c2) (w2 := w3) ?_ (hK _ _ (Grow.refl _) rfl)
                go_simp
              · refine stageOf_free rfl (fun us vals w3 a' ha hd => ?_) ?_
                · obtain ⟨_, d34, _⟩ := hd
                  have q : a'.tmps[71]? = some (us 34) := slot_get ha 34 (by kernel_rfl) (by kernel_rfl)
                  rw [show us 34 = .bool false from d34] at q
                  exact wanted_some rfl rfl q
                intro us vals w3 a' ha hle hW hd hv K hK
                obtain ⟨d39, _, _⟩ := hd
                have q76 : a'.tmps[76]? = some (us 39) := slot_get ha 39 (by kernel_rfl) (by kernel_rfl)
                rw [show us 39 = .slice (some ⟨b2, o2, none⟩) n2 c2 from d39] at q76
                refine step_value (v := .int .i64 (n2 : Int)) (w2 := w3) ?_ (hK _ _ (Grow.refl _) rfl)
                go_simp
              · refine stageOf_free rfl (fun us vals w3 a' ha hd => ?_) ?_
                · obtain ⟨_, d34, _⟩ := hd
                  have q : a'.tmps[71]? = some (us 34) := slot_get ha 34 (by kernel_rfl) (by kernel_rfl)
                  rw [show us 34 = .bool false from d34] at q
                  exact wanted_some rfl rfl q
                intro us vals w3 a' ha hle hW hd hv K hK
                obtain ⟨d40, _, _⟩ := hd
                have q77 : a'.tmps[77]? = some (us 40) := slot_get ha 40 (by kernel_rfl) (by kernel_rfl)
                rw [show us 40 = .int .i64 (n2 : Int) from d40] at q77
                refine step_value (v := .bool false) (w2 := w3) ?_ (hK _ _ (Grow.refl _) rfl)
                go_simp
              · refine stageOf_free rfl (fun _ _ _ _ _ _ => wanted_none rfl) ?_
                intro us vals w3 a' ha hle hW hd hv K hK
                obtain ⟨d34, d41, _⟩ := hd
                have q71 : a'.tmps[71]? = some (us 34) := slot_get ha 34 (by kernel_rfl) (by kernel_rfl)
                rw [show us 34 = .bool false from d34] at q71
                have q78 : a'.tmps[78]? = some (us 41) := slot_get ha 41 (by kernel_rfl) (by kernel_rfl)
                rw [show us 41 = .bool false from d41] at q78
                refine step_value (v := .bool false) (w2 := w3) ?_ (hK _ _ (Grow.refl _) rfl)
                go_simp
            · intro us vals w3' hle hvl hV _ hf
              exact hMx _ _ (Met.intro (hJx _ _ ⟨us 0, us 1, us 2, us 3, us 4, us 5, us 6, us 7, us 8, us 9, us 10, us 11, us 12, us 13, us 14, us 15, us 16, us 17, us 18, us 19, us 20, us 21, us 22, us 23, us 24, us 25, us 26, us 27, us 28, us 29, us 30, us 31, us 32, us 33, us 34, us 35, us 36, us 37, us 38, us 39, us 40, us 41, us 42, ⟨_, rfl, hf 42 (by decide) rfl, hV⟩, by kernel_rfl⟩))
        case rest =>
          obtain ⟨W9, rfl, rfl, hg9⟩ := hcut
          have hs9 : Blk W9 w3.heap.size 4 (rowM gs Q N i 0) := (Keep.grow (S := fun _ => False) hg9).blk Hs.out (fun h => h)
          have hk9 : Keep (fun j => j = w3.heap.size) W0 W9 := Hk.out.trans' (Keep.grow hg9)
          clear Hs Hk HC hg9
          go_wp2_with fail
          go_loopw [11] (fun v11 wi => ∃ k : Nat, k ≤ n2 ∧ v11 = .int .i64 (k : Int) ∧ Hid (Blk wi w3.heap.size 4 (rowM gs Q N i k)) ∧ Hid (Keep (fun j => j = w3.heap.size) W0 wi)) (fun v11 _ => n2 - (intOf v11).toNat)
          case atStart => exact ⟨0, by omega, rfl, hs9, hk9⟩
          case round =>
            clear hs9 hk9
            obtain ⟨k, hkn, rfl, hs, hk⟩ := hrel
            obtain ⟨wi, rfl⟩ : ∃ wi : World, wi = wr := ⟨_, rfl⟩
            obtain ⟨q1, q2, q3⟩ := Hcl.out wi hk.out
            by_cases hlk : k < n2
            · have d5 : decide ((k : Int) < (n2 : Int)) = true := decide_eq_true (by omega)
              obtain ⟨p, hp⟩ : ∃ p, (posOf gs g gs.length)[k]? = some p := ⟨_, List.getElem?_eq_getElem (by rw [← Hrest.out.2.2.1]; exact hlk)⟩
              obtain ⟨p1, p2⟩ := Hpl.out wi hk.out k p hp
              have hpN : p < N := by rw [HN.out]; exact (mem_posOf.1 (List.mem_of_getElem? hp)).1
              have Hp := Lib.hid hp
              have Hs := Lib.hid hs
              have Hk := Lib.hid hk
              clear hp hs hk
              go_upto_region 16 with (fail)
              obtain ⟨wq, hwq⟩ : ∃ wq, wi.alloc (.cells #[.int .i64 0, .int .i64 (p : Int)] 45) = wq := ⟨_, rfl⟩
              obtain ⟨z, hz⟩ : ∃ z, z = wi.heap.size := ⟨_, rfl⟩
              have hgq : Grow wi wq := by rw [← hwq]; exact Grow.alloc _ _
              have hbq : Blk wq z 45 #[.int .i64 0, .int .i64 (p : Int)] := by rw [hz, ← hwq]; exact Blk.new _ _ _
              have hsq : Blk wq w3.heap.size 4 (rowM gs Q N i k) := (Keep.grow (S := fun _ => False) hgq).blk Hs.out (fun h => h)
              have hkq : Keep (fun j => j = w3.heap.size) W0 wq := Hk.out.trans' (Keep.grow hgq)
              have hzne : z ≠ w3.heap.size := by have := hs3; have := Hk.out.size; omega
              rw [hwq, ← hz]
              clear hwq hz hgq Hs Hk p1 p2 q1 q2 q3
              have Hbq := Lib.hid hbq
              have Hsq := Lib.hid hsq
              have Hkq := Lib.hid hkq
              have Hrow := Lib.hid (show (rowM gs Q N i k)[p]? = some (.bool false) by rw [rowM_at hpN, HQ.out, marked_not (by rw [← HQ.out]; exact Hrest.out.2.2.2.1) Hp.out])
              have HC := Lib.hid (show ∀ W, Grow wq W → W.cell? ⟨z, 0, none⟩ = some (.int .i64 0) ∧ W.cell? ⟨z, 1, none⟩ = some (.int .i64 (p : Int)) ∧ W.cell? ⟨w3.heap.size, p, none⟩ = some (.bool false) ∧ W.cell? ⟨b1, o1 + i * 2 + 1, none⟩ = some (.slice (some ⟨b2, o2, none⟩) n2 c2) from fun W h => by
                have hk9 := Hkq.out.trans' (Keep.grow h)
                have hb9 := (Keep.grow (S := fun _ => False) h).blk Hbq.out (fun h => h)
                have hs9 := (Keep.grow (S := fun _ => False) h).blk Hsq.out (fun h => h)
                refine ⟨hb9.cell 0, hb9.cell 1, (hs9.cell p).trans Hrow.out, (Hcl.out W hk9).2.1⟩)
              clear hbq hsq hkq
              go_cut [138] from 98 to 138 (fun vx wx => ∃ W9 : World, W9 = wx ∧ vx = .bool false ∧ Grow wq W9)
              case first Jx Kx hJx hMx =>
                have d6 : decide ((p : Int) < 0) = false := decide_eq_false (by omega)
                have d7 : decide ((N : Int) ≤ (p : Int)) = false := decide_eq_false (by omega)
                rcases Nat.eq_zero_or_pos k with h0 | h0
                · have d3 : decide ((0 : Int) < (k : Int)) = false := decide_eq_false (by omega)
                  have H0 := Lib.hid h0
                  clear h0
                  refine wp_region_stages (by kernel_rfl) ?_
                  refine anyOrder_start [] (Keep (fun _ => False)) ((fun _ w => Grow wq w)) (FactsOn [.is (.pointer (some ⟨z, 0, none⟩)), .is (.int .i64 (0)), .is (.bool false), .is (.bool false), .is (.pointer (some ⟨z, 1, none⟩)), .is (.int .i64 (p : Int)), .is (.bool false), .is (.bool false), .is (.bool false), .is (.pointer (some ⟨z, 1, none⟩)), .is (.int .i64 (p : Int)), .is (.slice (some ⟨w3.heap.size, 0, none⟩) N N), .is (.int .i64 (N : Int)), .is (.bool false), .is (.bool false), .is (.bool false), .is (.slice (some ⟨w3.heap.size, 0, none⟩) N N), .is (.pointer (some ⟨z, 1, none⟩)), .is (.int .i64 (p : Int)), .is (.pointer (some ⟨w3.heap.size, p, none⟩)), .is (.bool false), .is (.bool false), .is (.bool false), .is (.int .i64 (k : Int)), .is (.bool false), .is (.bool false), .is (undef), .is (undef), .is (undef), .is (undef), .is (undef), .is (undef), .is (undef), .is (undef), .is (undef), .is (undef), .is (undef), .is (undef), .is (undef), .is (.bool false), .is (.bool false)]) (fun i => 99) keep_trans keep_grow (fun _ _ _ hg h => Grow.trans h hg) (factsOn_mono _) (by kernel_rfl) (by kernel_rfl) (Grow.refl _) ?_ ?_
                  · refine ⟨?_, ?_, ?_, ?_, ?_, ?_, ?_, ?_, ?_, ?_, ?_, ?_, ?_, ?_, ?_, ?_, ?_, ?_, ?_, ?_, ?_, ?_, ?_, ?_, ?_, ?_, ?_, ?_, ?_, ?_, ?_, ?_, ?_, ?_, ?_, ?_, ?_, ?_, ?_, ?_, ?_, trivial⟩
                    · refine stageOf_free rfl (fun _ _ _ _ _ _ => wanted_none rfl) ?_
                      intro us vals wv a' ha hle hW hd hv K hK
                      have q12 : a'.tmps[12]? = some (.pointer (some ⟨z, 0, none⟩)) := slot_old ha (by kernel_rfl) (by kernel_rfl)
                      refine step_value (v := .pointer (some ⟨z, 0, none⟩)) (w2 := wv) ?_ (hK _ _ (Grow.refl _) rfl)
                      go_simp
                      (try (intro h; omega))
                    · refine stageOf_free rfl (fun _ _ _ _ _ _ => wanted_none rfl) ?_
                      intro us vals wv a' ha hle hW hd hv K hK
                      obtain ⟨d0, _⟩ := hd
                      have q98 : a'.tmps[98]? = some (us 0) := slot_get ha 0 (by kernel_rfl) (by kernel_rfl)
                      rw [show us 0 = .pointer (some ⟨z, 0, none⟩) from d0] at q98
                      have hc := (HC.out wv hW).1
                      refine step_value (v := .int .i64 0) (w2 := wv) ?_ (hK _ _ (Grow.refl _) rfl)
                      go_simp
                    · refine stageOf_free rfl (fun _ _ _ _ _ _ => wanted_none rfl) ?_
                      intro us vals wv a' ha hle hW hd hv K hK
                      obtain ⟨d1, _⟩ := hd
                      have q99 : a'.tmps[99]? = some (us 1) := slot_get ha 1 (by kernel_rfl) (by kernel_rfl)
                      rw [show us 1 = .int .i64 (0) from d1] at q99
                      refine step_value (v := .bool false) (w2 := wv) ?_ (hK _ _ (Grow.refl _) rfl)
                      go_simp
                    · refine stageOf_free rfl (fun _ _ _ _ _ _ => wanted_none rfl) ?_
                      intro us vals wv a' ha hle hW hd hv K hK
                      obtain ⟨d2, _⟩ := hd
                      have q100 : a'.tmps[100]? = some (us 2) := slot_get ha 2 (by kernel_rfl) (by kernel_rfl)
                      rw [show us 2 = .bool false from d2] at q100
                      exact step_value (w2 := wv) (by go_simp) (hK _ _ (Grow.refl _) rfl)
                    · refine stageOf_free rfl (fun us vals wv a' ha hd => ?_) ?_
                      · obtain ⟨d3, _⟩ := hd
                        have q : a'.tmps[101]? = some (us 3) := slot_get ha 3 (by kernel_rfl) (by kernel_rfl)
                        rw [show us 3 = .bool false from d3] at q
                        exact wanted_some rfl rfl q
                      intro us vals wv a' ha hle hW hd hv K hK
                      have q12 : a'.tmps[12]? = some (.pointer (some ⟨z, 0, none⟩)) := slot_old ha (by kernel_rfl) (by kernel_rfl)
                      refine step_value (v := .pointer (some ⟨z, 1, none⟩)) (w2 := wv) ?_ (hK _ _ (Grow.refl _) rfl)
                      go_simp
                      (try (intro h; omega))
                    · refine stageOf_free rfl (fun us vals wv a' ha hd => ?_) ?_
                      · obtain ⟨_, d3, _⟩ := hd
                        have q : a'.tmps[101]? = some (us 3) := slot_get ha 3 (by kernel_rfl) (by kernel_rfl)
                        rw [show us 3 = .bool false from d3] at q
                        exact wanted_some rfl rfl q
                      intro us vals wv a' ha hle hW hd hv K hK
                      obtain ⟨d4, _, _⟩ := hd
                      have q102 : a'.tmps[102]? = some (us 4) := slot_get ha 4 (by kernel_rfl) (by kernel_rfl)
                      rw [show us 4 = .pointer (some ⟨z, 1, none⟩) from d4] at q102
                      have hc := (HC.out wv hW).2.1
                      refine step_value (v := .int .i64 (p : Int)) (w2 := wv) ?_ (hK _ _ (Grow.refl _) rfl)
                      go_simp
                    · refine stageOf_free rfl (fun us vals wv a' ha hd => ?_) ?_
                      · obtain ⟨_, d3, _⟩ := hd
                        have q : a'.tmps[101]? = some (us 3) := slot_get ha 3 (by kernel_rfl) (by kernel_rfl)
                        rw [show us 3 = .bool false from d3] at q
                        exact wanted_some rfl rfl q
                      intro us vals wv a' ha hle hW hd hv K hK
                      obtain ⟨d5, _, _⟩ := hd
                      have q103 : a'.tmps[103]? = some (us 5) := slot_get ha 5 (by kernel_rfl) (by kernel_rfl)
                      rw [show us 5 = .int .i64 (p : Int) from d5] at q103
                      refine step_value (v := .bool false) (w2 := wv) ?_ (hK _ _ (Grow.refl _) rfl)
                      go_simp
                    · refine stageOf_free rfl (fun _ _ _ _ _ _ => wanted_none rfl) ?_
                      intro us vals wv a' ha hle hW hd hv K hK
                      obtain ⟨d3, d6, _⟩ := hd
                      have q101 : a'.tmps[101]? = some (us 3) := slot_get ha 3 (by kernel_rfl) (by kernel_rfl)
                      rw [show us 3 = .bool false from d3] at q101
                      have q104 : a'.tmps[104]? = some (us 6) := slot_get ha 6 (by kernel_rfl) (by kernel_rfl)
                      rw [show us 6 = .bool false from d6] at q104
                      refine step_value (v := .bool false) (w2 := wv) ?_ (hK _ _ (Grow.refl _) rfl)
                      go_simp
                    · refine stageOf_free rfl (fun _ _ _ _ _ _ => wanted_none rfl) ?_
                      intro us vals wv a' ha hle hW hd hv K hK
                      obtain ⟨d7, _, _⟩ := hd
                      have q105 : a'.tmps[105]? = some (us 7) := slot_get ha 7 (by kernel_rfl) (by kernel_rfl)
                      rw [show us 7 = .bool false from d7] at q105
                      exact step_value (w2 := wv) (by go_simp) (hK _ _ (Grow.refl _) rfl)
                    · refine stageOf_free rfl (fun us vals wv a' ha hd => ?_) ?_
                      · obtain ⟨d8, _⟩ := hd
                        have q : a'.tmps[106]? = some (us 8) := slot_get ha 8 (by kernel_rfl) (by kernel_rfl)
                        rw [show us 8 = .bool false from d8] at q
                        exact wanted_some rfl rfl q
                      intro us vals wv a' ha hle hW hd hv K hK
                      have q12 : a'.tmps[12]? = some (.pointer (some ⟨z, 0, none⟩)) := slot_old ha (by kernel_rfl) (by kernel_rfl)
                      refine step_value (v := .pointer (some ⟨z, 1, none⟩)) (w2 := wv) ?_ (hK _ _ (Grow.refl _) rfl)
                      go_simp
                      (try (intro h; omega))
                    · refine stageOf_free rfl (fun us vals wv a' ha hd => ?_) ?_
                      · obtain ⟨_, d8, _⟩ := hd
                        have q : a'.tmps[106]? = some (us 8) := slot_get ha 8 (by kernel_rfl) (by kernel_rfl)
                        rw [show us 8 = .bool false from d8] at q
                        exact wanted_some rfl rfl q
                      intro us vals wv a' ha hle hW hd hv K hK
                      obtain ⟨d9, _, _⟩ := hd
                      have q107 : a'.tmps[107]? = some (us 9) := slot_get ha 9 (by kernel_rfl) (by kernel_rfl)
                      rw [show us 9 = .pointer (some ⟨z, 1, none⟩) from d9] at q107
                      have hc := (HC.out wv hW).2.1
                      refine step_value (v := .int .i64 (p : Int)) (w2 := wv) ?_ (hK _ _ (Grow.refl _) rfl)
                      go_simp
                    · refine stageOf_free rfl (fun us vals wv a' ha hd => ?_) ?_
                      · obtain ⟨d8, _⟩ := hd
                        have q : a'.tmps[106]? = some (us 8) := slot_get ha 8 (by kernel_rfl) (by kernel_rfl)
                        rw [show us 8 = .bool false from d8] at q
                        exact wanted_some rfl rfl q
                      intro us vals wv a' ha hle hW hd hv K hK
                      have q9 : a'.tmps[9]? = some (.slice (some ⟨w3.heap.size, 0, none⟩) N N) := slot_old ha (by kernel_rfl) (by kernel_rfl)
                      exact step_value (w2 := wv) (by go_simp) (hK _ _ (Grow.refl _) rfl)
                    · refine stageOf_free rfl (fun us vals wv a' ha hd => ?_) ?_
                      · obtain ⟨_, d8, _⟩ := hd
                        have q : a'.tmps[106]? = some (us 8) := slot_get ha 8 (by kernel_rfl) (by kernel_rfl)
                        rw [show us 8 = .bool false from d8] at q
                        exact wanted_some rfl rfl q
                      intro us vals wv a' ha hle hW hd hv K hK
                      obtain ⟨d11, _, _⟩ := hd
                      have q109 : a'.tmps[109]? = some (us 11) := slot_get ha 11 (by kernel_rfl) (by kernel_rfl)
                      rw [show us 11 = .slice (some ⟨w3.heap.size, 0, none⟩) N N from d11] at q109
                      refine step_value (v := .int .i64 (N : Int)) (w2 := wv) ?_ (hK _ _ (Grow.refl _) rfl)
                      go_simp
                    · refine stageOf_free rfl (fun us vals wv a' ha hd => ?_) ?_
                      · obtain ⟨_, _, d8, _⟩ := hd
                        have q : a'.tmps[106]? = some (us 8) := slot_get ha 8 (by kernel_rfl) (by kernel_rfl)
                        rw [show us 8 = .bool false from d8] at q
                        exact wanted_some rfl rfl q
                      intro us vals wv a' ha hle hW hd hv K hK
                      obtain ⟨d10, d12, _, _⟩ := hd
                      have q108 : a'.tmps[108]? = some (us 10) := slot_get ha 10 (by kernel_rfl) (by kernel_rfl)
                      rw [show us 10 = .int .i64 (p : Int) from d10] at q108
                      have q110 : a'.tmps[110]? = some (us 12) := slot_get ha 12 (by kernel_rfl) (by kernel_rfl)
                      rw [show us 12 = .int .i64 (N : Int) from d12] at q110
                      refine step_value (v := .bool false) (w2 := wv) ?_ (hK _ _ (Grow.refl _) rfl)
                      go_simp
                    · refine stageOf_free rfl (fun _ _ _ _ _ _ => wanted_none rfl) ?_
                      intro us vals wv a' ha hle hW hd hv K hK
                      obtain ⟨d8, d13, _⟩ := hd
                      have q106 : a'.tmps[106]? = some (us 8) := slot_get ha 8 (by kernel_rfl) (by kernel_rfl)
                      rw [show us 8 = .bool false from d8] at q106
                      have q111 : a'.tmps[111]? = some (us 13) := slot_get ha 13 (by kernel_rfl) (by kernel_rfl)
                      rw [show us 13 = .bool false from d13] at q111
                      refine step_value (v := .bool false) (w2 := wv) ?_ (hK _ _ (Grow.refl _) rfl)
                      go_simp
                    · refine stageOf_free rfl (fun _ _ _ _ _ _ => wanted_none rfl) ?_
                      intro us vals wv a' ha hle hW hd hv K hK
                      obtain ⟨d14, _, _⟩ := hd
                      have q112 : a'.tmps[112]? = some (us 14) := slot_get ha 14 (by kernel_rfl) (by kernel_rfl)
                      rw [show us 14 = .bool false from d14] at q112
                      exact step_value (w2 := wv) (by go_simp) (hK _ _ (Grow.refl _) rfl)
                    · refine stageOf_free rfl (fun us vals wv a' ha hd => ?_) ?_
                      · obtain ⟨d15, _⟩ := hd
                        have q : a'.tmps[113]? = some (us 15) := slot_get ha 15 (by kernel_rfl) (by kernel_rfl)
                        rw [show us 15 = .bool false from d15] at q
                        exact wanted_some rfl rfl q
                      intro us vals wv a' ha hle hW hd hv K hK
                      have q9 : a'.tmps[9]? = some (.slice (some ⟨w3.heap.size, 0, none⟩) N N) := slot_old ha (by kernel_rfl) (by kernel_rfl)
                      exact step_value (w2 := wv) (by go_simp) (hK _ _ (Grow.refl _) rfl)
                    · refine stageOf_free rfl (fun us vals wv a' ha hd => ?_) ?_
                      · obtain ⟨d15, _⟩ := hd
                        have q : a'.tmps[113]? = some (us 15) := slot_get ha 15 (by kernel_rfl) (by kernel_rfl)
                        rw [show us 15 = .bool false from d15] at q
                        exact wanted_some rfl rfl q
                      intro us vals wv a' ha hle hW hd hv K hK
                      have q12 : a'.tmps[12]? = some (.pointer (some ⟨z, 0, none⟩)) := slot_old ha (by kernel_rfl) (by kernel_rfl)
                      refine step_value (v := .pointer (some ⟨z, 1, none⟩)) (w2 := wv) ?_ (hK _ _ (Grow.refl _) rfl)
                      go_simp
                      (try (intro h; omega))
                    · refine stageOf_free rfl (fun us vals wv a' ha hd => ?_) ?_
                      · obtain ⟨_, d15, _⟩ := hd
                        have q : a'.tmps[113]? = some (us 15) := slot_get ha 15 (by kernel_rfl) (by kernel_rfl)
                        rw [show us 15 = .bool false from d15] at q
                        exact wanted_some rfl rfl q
                      intro us vals wv a' ha hle hW hd hv K hK
                      obtain ⟨d17, _, _⟩ := hd
                      have q115 : a'.tmps[115]? = some (us 17) := slot_get ha 17 (by kernel_rfl) (by kernel_rfl)
                      rw [show us 17 = .pointer (some ⟨z, 1, none⟩) from d17] at q115
                      have hc := (HC.out wv hW).2.1
                      refine step_value (v := .int .i64 (p : Int)) (w2 := wv) ?_ (hK _ _ (Grow.refl _) rfl)
                      go_simp
                    · refine stageOf_free rfl (fun us vals wv a' ha hd => ?_) ?_
                      · obtain ⟨_, _, d15, _⟩ := hd
                        have q : a'.tmps[113]? = some (us 15) := slot_get ha 15 (by kernel_rfl) (by kernel_rfl)
                        rw [show us 15 = .bool false from d15] at q
                        exact wanted_some rfl rfl q
                      intro us vals wv a' ha hle hW hd hv K hK
                      obtain ⟨d16, d18, _, _⟩ := hd
                      have q114 : a'.tmps[114]? = some (us 16) := slot_get ha 16 (by kernel_rfl) (by kernel_rfl)
                      rw [show us 16 = .slice (some ⟨w3.heap.size, 0, none⟩) N N from d16] at q114
                      have q116 : a'.tmps[116]? = some (us 18) := slot_get ha 18 (by kernel_rfl) (by kernel_rfl)
                      rw [show us 18 = .int .i64 (p : Int) from d18] at q116
                      refine step_value (v := .pointer (some ⟨w3.heap.size, p, none⟩)) (w2 := wv) ?_ (hK _ _ (Grow.refl _) rfl)
                      go_simp
                      (try (intro h; omega))
                    · refine stageOf_free rfl (fun us vals wv a' ha hd => ?_) ?_
                      · obtain ⟨_, d15, _⟩ := hd
                        have q : a'.tmps[113]? = some (us 15) := slot_get ha 15 (by kernel_rfl) (by kernel_rfl)
                        rw [show us 15 = .bool false from d15] at q
                        exact wanted_some rfl rfl q
                      intro us vals wv a' ha hle hW hd hv K hK
                      obtain ⟨d19, _, _⟩ := hd
                      have q117 : a'.tmps[117]? = some (us 19) := slot_get ha 19 (by kernel_rfl) (by kernel_rfl)
                      rw [show us 19 = .pointer (some ⟨w3.heap.size, p, none⟩) from d19] at q117
                      have hc := (HC.out wv hW).2.2.1
                      refine step_value (v := .bool false) (w2 := wv) ?_ (hK _ _ (Grow.refl _) rfl)
                      go_simp
                    · refine stageOf_free rfl (fun _ _ _ _ _ _ => wanted_none rfl) ?_
                      intro us vals wv a' ha hle hW hd hv K hK
                      obtain ⟨d15, d20, _⟩ := hd
                      have q113 : a'.tmps[113]? = some (us 15) := slot_get ha 15 (by kernel_rfl) (by kernel_rfl)
                      rw [show us 15 = .bool false from d15] at q113
                      have q118 : a'.tmps[118]? = some (us 20) := slot_get ha 20 (by kernel_rfl) (by kernel_rfl)
                      rw [show us 20 = .bool false from d20] at q118
                      refine step_value (v := .bool false) (w2 := wv) ?_ (hK _ _ (Grow.refl _) rfl)
                      go_simp
                    · refine stageOf_free rfl (fun _ _ _ _ _ _ => wanted_none rfl) ?_
                      intro us vals wv a' ha hle hW hd hv K hK
                      obtain ⟨d21, _, _⟩ := hd
                      have q119 : a'.tmps[119]? = some (us 21) := slot_get ha 21 (by kernel_rfl) (by kernel_rfl)
                      rw [show us 21 = .bool false from d21] at q119
                      exact step_value (w2 := wv) (by go_simp) (hK _ _ (Grow.refl _) rfl)
                    · refine stageOf_free rfl (fun us vals wv a' ha hd => ?_) ?_
                      · obtain ⟨d22, _⟩ := hd
                        have q : a'.tmps[120]? = some (us 22) := slot_get ha 22 (by kernel_rfl) (by kernel_rfl)
                        rw [show us 22 = .bool false from d22] at q
                        exact wanted_some rfl rfl q
                      intro us vals wv a' ha hle hW hd hv K hK
                      have q11 : a'.tmps[11]? = some (.int .i64 (k : Int)) := slot_old ha (by kernel_rfl) (by kernel_rfl)
                      exact step_value (w2 := wv) (by go_simp) (hK _ _ (Grow.refl _) rfl)
                    · refine stageOf_free rfl (fun us vals wv a' ha hd => ?_) ?_
                      · obtain ⟨_, d22, _⟩ := hd
                        have q : a'.tmps[120]? = some (us 22) := slot_get ha 22 (by kernel_rfl) (by kernel_rfl)
                        rw [show us 22 = .bool false from d22] at q
                        exact wanted_some rfl rfl q
                      intro us vals wv a' ha hle hW hd hv K hK
                      obtain ⟨d23, _, _⟩ := hd
                      have q121 : a'.tmps[121]? = some (us 23) := slot_get ha 23 (by kernel_rfl) (by kernel_rfl)
                      rw [show us 23 = .int .i64 (k : Int) from d23] at q121
                      refine step_value (v := .bool false) (w2 := wv) ?_ (hK _ _ (Grow.refl _) rfl)
                      go_simp
                      exact H0.out
                    · refine stageOf_free rfl (fun us vals wv a' ha hd => ?_) ?_
                      · obtain ⟨_, d22, _, _⟩ := hd
                        have q : a'.tmps[120]? = some (us 22) := slot_get ha 22 (by kernel_rfl) (by kernel_rfl)
                        rw [show us 22 = .bool false from d22] at q
                        exact wanted_some rfl rfl q
                      intro us vals wv a' ha hle hW hd hv K hK
                      obtain ⟨d24, _, _, _⟩ := hd
                      have q122 : a'.tmps[122]? = some (us 24) := slot_get ha 24 (by kernel_rfl) (by kernel_rfl)
                      rw [show us 24 = .bool false from d24] at q122
                      exact step_value (w2 := wv) (by go_simp) (hK _ _ (Grow.refl _) rfl)
                    · refine stageOf_skip rfl (fun us vals wv a' ha hd => ?_) (fun _ => rfl)
                      obtain ⟨d25, _⟩ := hd
                      have q : a'.tmps[123]? = some (us 25) := slot_get ha 25 (by kernel_rfl) (by kernel_rfl)
                      rw [show us 25 = .bool false from d25] at q
                      exact wanted_other rfl rfl q
                    · refine stageOf_skip rfl (fun us vals wv a' ha hd => ?_) (fun _ => rfl)
                      obtain ⟨d25, _⟩ := hd
                      have q : a'.tmps[123]? = some (us 25) := slot_get ha 25 (by kernel_rfl) (by kernel_rfl)
                      rw [show us 25 = .bool false from d25] at q
                      exact wanted_other rfl rfl q
                    · refine stageOf_skip rfl (fun us vals wv a' ha hd => ?_) (fun _ => rfl)
                      obtain ⟨_, _, d25, _⟩ := hd
                      have q : a'.tmps[123]? = some (us 25) := slot_get ha 25 (by kernel_rfl) (by kernel_rfl)
                      rw [show us 25 = .bool false from d25] at q
                      exact wanted_other rfl rfl q
                    · refine stageOf_skip rfl (fun us vals wv a' ha hd => ?_) (fun _ => rfl)
                      obtain ⟨_, d25, _⟩ := hd
                      have q : a'.tmps[123]? = some (us 25) := slot_get ha 25 (by kernel_rfl) (by kernel_rfl)
                      rw [show us 25 = .bool false from d25] at q
                      exact wanted_other rfl rfl q
                    · refine stageOf_skip rfl (fun us vals wv a' ha hd => ?_) (fun _ => rfl)
                      obtain ⟨_, d25, _⟩ := hd
                      have q : a'.tmps[123]? = some (us 25) := slot_get ha 25 (by kernel_rfl) (by kernel_rfl)
                      rw [show us 25 = .bool false from d25] at q
                      exact wanted_other rfl rfl q
                    · refine stageOf_skip rfl (fun us vals wv a' ha hd => ?_) (fun _ => rfl)
                      obtain ⟨d25, _⟩ := hd
                      have q : a'.tmps[123]? = some (us 25) := slot_get ha 25 (by kernel_rfl) (by kernel_rfl)
                      rw [show us 25 = .bool false from d25] at q
                      exact wanted_other rfl rfl q
                    · refine stageOf_skip rfl (fun us vals wv a' ha hd => ?_) (fun _ => rfl)
                      obtain ⟨_, d25, _⟩ := hd
                      have q : a'.tmps[123]? = some (us 25) := slot_get ha 25 (by kernel_rfl) (by kernel_rfl)
                      rw [show us 25 = .bool false from d25] at q
                      exact wanted_other rfl rfl q
                    · refine stageOf_skip rfl (fun us vals wv a' ha hd => ?_) (fun _ => rfl)
                      obtain ⟨_, _, d25, _⟩ := hd
                      have q : a'.tmps[123]? = some (us 25) := slot_get ha 25 (by kernel_rfl) (by kernel_rfl)
                      rw [show us 25 = .bool false from d25] at q
                      exact wanted_other rfl rfl q
                    · refine stageOf_skip rfl (fun us vals wv a' ha hd => ?_) (fun _ => rfl)
                      obtain ⟨_, d25, _⟩ := hd
                      have q : a'.tmps[123]? = some (us 25) := slot_get ha 25 (by kernel_rfl) (by kernel_rfl)
                      rw [show us 25 = .bool false from d25] at q
                      exact wanted_other rfl rfl q
                    · refine stageOf_skip rfl (fun us vals wv a' ha hd => ?_) (fun _ => rfl)
                      obtain ⟨_, d25, _⟩ := hd
                      have q : a'.tmps[123]? = some (us 25) := slot_get ha 25 (by kernel_rfl) (by kernel_rfl)
                      rw [show us 25 = .bool false from d25] at q
                      exact wanted_other rfl rfl q
                    · refine stageOf_skip rfl (fun us vals wv a' ha hd => ?_) (fun _ => rfl)
                      obtain ⟨d25, _⟩ := hd
                      have q : a'.tmps[123]? = some (us 25) := slot_get ha 25 (by kernel_rfl) (by kernel_rfl)
                      rw [show us 25 = .bool false from d25] at q
                      exact wanted_other rfl rfl q
                    · refine stageOf_skip rfl (fun us vals wv a' ha hd => ?_) (fun _ => rfl)
                      obtain ⟨_, d25, _⟩ := hd
                      have q : a'.tmps[123]? = some (us 25) := slot_get ha 25 (by kernel_rfl) (by kernel_rfl)
                      rw [show us 25 = .bool false from d25] at q
                      exact wanted_other rfl rfl q
                    · refine stageOf_skip rfl (fun us vals wv a' ha hd => ?_) (fun _ => rfl)
                      obtain ⟨_, _, d25, _⟩ := hd
                      have q : a'.tmps[123]? = some (us 25) := slot_get ha 25 (by kernel_rfl) (by kernel_rfl)
                      rw [show us 25 = .bool false from d25] at q
                      exact wanted_other rfl rfl q
                    · refine stageOf_free rfl (fun us vals wv a' ha hd => ?_) ?_
                      · obtain ⟨_, _, d22, _⟩ := hd
                        have q : a'.tmps[120]? = some (us 22) := slot_get ha 22 (by kernel_rfl) (by kernel_rfl)
                        rw [show us 22 = .bool false from d22] at q
                        exact wanted_some rfl rfl q
                      intro us vals wv a' ha hle hW hd hv K hK
                      obtain ⟨d25, d38, _, _⟩ := hd
                      have q123 : a'.tmps[123]? = some (us 25) := slot_get ha 25 (by kernel_rfl) (by kernel_rfl)
                      rw [show us 25 = .bool false from d25] at q123
                      have q136 : a'.tmps[136]? = some (us 38) := slot_get ha 38 (by kernel_rfl) (by kernel_rfl)
                      rw [show us 38 = undef from d38] at q136
                      refine step_value (v := .bool false) (w2 := wv) ?_ (hK _ _ (Grow.refl _) rfl)
                      go_simp
                    · refine stageOf_free rfl (fun _ _ _ _ _ _ => wanted_none rfl) ?_
                      intro us vals wv a' ha hle hW hd hv K hK
                      obtain ⟨d22, d39, _⟩ := hd
                      have q120 : a'.tmps[120]? = some (us 22) := slot_get ha 22 (by kernel_rfl) (by kernel_rfl)
                      rw [show us 22 = .bool false from d22] at q120
                      have q137 : a'.tmps[137]? = some (us 39) := slot_get ha 39 (by kernel_rfl) (by kernel_rfl)
                      rw [show us 39 = .bool false from d39] at q137
                      refine step_value (v := .bool false) (w2 := wv) ?_ (hK _ _ (Grow.refl _) rfl)
                      go_simp
                  · intro us vals w3' hle hvl hV _ hf
                    exact hMx _ _ (Met.intro (hJx _ _ ⟨us 0, us 1, us 2, us 3, us 4, us 5, us 6, us 7, us 8, us 9, us 10, us 11, us 12, us 13, us 14, us 15, us 16, us 17, us 18, us 19, us 20, us 21, us 22, us 23, us 24, us 25, us 26, us 27, us 28, us 29, us 30, us 31, us 32, us 33, us 34, us 35, us 36, us 37, us 38, us 39, us 40, ⟨_, rfl, hf 40 (by decide) rfl, hV⟩, by kernel_rfl⟩))
                · have d3 : decide ((0 : Int) < (k : Int)) = true := decide_eq_true (by omega)
                  obtain ⟨j, hj⟩ : ∃ j, k = j + 1 := ⟨k - 1, by omega⟩
                  have e5 : (k : Int) - 1 = (j : Int) := by omega
                  have hjm : (j : Int) < (n2 : Int) := by omega
                  have hjz : j ≤ 9223372036854775807 := by unfold maxLen at h22; omega
                  obtain ⟨pp, hpp⟩ : ∃ pp, (posOf gs g gs.length)[j]? = some pp := ⟨_, List.getElem?_eq_getElem (by rw [← Hrest.out.2.2.1]; omega)⟩
                  have H8 := Lib.hid (show pp < p from posOf_at (i := j) (j := k) (by omega) hpp Hp.out)
                  have HP := Lib.hid (show ∀ W, Grow wq W → W.cell? ⟨b2, o2 + j * 2 + 1, none⟩ = some (.int .i64 (pp : Int)) from fun W h => (Hpl.out W (Hkq.out.trans' (Keep.grow h)) j pp hpp).2)
                  have H0 := Lib.hid h0
                  clear hj hpp h0
                  refine wp_region_stages (by kernel_rfl) ?_
                  refine anyOrder_start [] (Keep (fun _ => False)) ((fun _ w => Grow wq w)) (FactsOn [.is (.pointer (some ⟨z, 0, none⟩)), .is (.int .i64 (0)), .is (.bool false), .is (.bool false), .is (.pointer (some ⟨z, 1, none⟩)), .is (.int .i64 (p : Int)), .is (.bool false), .is (.bool false), .is (.bool false), .is (.pointer (some ⟨z, 1, none⟩)), .is (.int .i64 (p : Int)), .is (.slice (some ⟨w3.heap.size, 0, none⟩) N N), .is (.int .i64 (N : Int)), .is (.bool false), .is (.bool false), .is (.bool false), .is (.slice (some ⟨w3.heap.size, 0, none⟩) N N), .is (.pointer (some ⟨z, 1, none⟩)), .is (.int .i64 (p : Int)), .is (.pointer (some ⟨w3.heap.size, p, none⟩)), .is (.bool false), .is (.bool false), .is (.bool false), .is (.int .i64 (k : Int)), .is (.bool true), .is (.bool true), .is (.slice (some ⟨b1, o1, none⟩) m c1), .is (.int .i64 (i : Int)), .is (.pointer (some ⟨b1, o1 + i * 2, none⟩)), .is (.pointer (some ⟨b1, o1 + i * 2 + 1, none⟩)), .is (.slice (some ⟨b2, o2, none⟩) n2 c2), .is (.int .i64 (k : Int)), .is (.int .i64 ((j : Int))), .is (.pointer (some ⟨b2, o2 + j * 2, none⟩)), .is (.pointer (some ⟨b2, o2 + j * 2 + 1, none⟩)), .is (.int .i64 (pp : Int)), .is (.pointer (some ⟨z, 1, none⟩)), .is (.int .i64 (p : Int)), .is (.bool false), .is (.bool false), .is (.bool false)]) (fun i => 99) keep_trans keep_grow (fun _ _ _ hg h => Grow.trans h hg) (factsOn_mono _) (by kernel_rfl) (by kernel_rfl) (Grow.refl _) ?_ ?_
                  · refine ⟨?_, ?_, ?_, ?_, ?_, ?_, ?_, ?_, ?_, ?_, ?_, ?_, ?_, ?_, ?_, ?_, ?_, ?_, ?_, ?_, ?_, ?_, ?_, ?_, ?_, ?_, ?_, ?_, ?_, ?_, ?_, ?_, ?_, ?_, ?_, ?_, ?_, ?_, ?_, ?_, ?_, trivial⟩
                    · refine stageOf_free rfl (fun _ _ _ _ _ _ => wanted_none rfl) ?_
                      intro us vals wv a' ha hle hW hd hv K hK
                      have q12 : a'.tmps[12]? = some (.pointer (some ⟨z, 0, none⟩)) := slot_old ha (by kernel_rfl) (by kernel_rfl)
                      refine step_value (v := .pointer (some ⟨z, 0, none⟩)) (w2 := wv) ?_ (hK _ _ (Grow.refl _) rfl)
                      go_simp
                      (try (intro h; omega))
                    · refine stageOf_free rfl (fun _ _ _ _ _ _ => wanted_none rfl) ?_
                      intro us vals wv a' ha hle hW hd hv K hK
                      obtain ⟨d0, _⟩ := hd
                      have q98 : a'.tmps[98]? = some (us 0) := slot_get ha 0 (by kernel_rfl) (by kernel_rfl)
                      rw [show us 0 = .pointer (some ⟨z, 0, none⟩) from d0] at q98
                      have hc := (HC.out wv hW).1
                      refine step_value (v := .int .i64 0) (w2 := wv) ?_ (hK _ _ (Grow.refl _) rfl)
                      go_simp
                    · refine stageOf_free rfl (fun _ _ _ _ _ _ => wanted_none rfl) ?_
                      intro us vals wv a' ha hle hW hd hv K hK
                      obtain ⟨d1, _⟩ := hd
                      have q99 : a'.tmps[99]? = some (us 1) := slot_get ha 1 (by kernel_rfl) (by kernel_rfl)
                      rw [show us 1 = .int .i64 (0) from d1] at q99
                      refine step_value (v := .bool false) (w2 := wv) ?_ (hK _ _ (Grow.refl _) rfl)
                      go_simp
                    · refine stageOf_free rfl (fun _ _ _ _ _ _ => wanted_none rfl) ?_
                      intro us vals wv a' ha hle hW hd hv K hK
                      obtain ⟨d2, _⟩ := hd
                      have q100 : a'.tmps[100]? = some (us 2) := slot_get ha 2 (by kernel_rfl) (by kernel_rfl)
                      rw [show us 2 = .bool false from d2] at q100
                      exact step_value (w2 := wv) (by go_simp) (hK _ _ (Grow.refl _) rfl)
                    · refine stageOf_free rfl (fun us vals wv a' ha hd => ?_) ?_
                      · obtain ⟨d3, _⟩ := hd
                        have q : a'.tmps[101]? = some (us 3) := slot_get ha 3 (by kernel_rfl) (by kernel_rfl)
                        rw [show us 3 = .bool false from d3] at q
                        exact wanted_some rfl rfl q
                      intro us vals wv a' ha hle hW hd hv K hK
                      have q12 : a'.tmps[12]? = some (.pointer (some ⟨z, 0, none⟩)) := slot_old ha (by kernel_rfl) (by kernel_rfl)
                      refine step_value (v := .pointer (some ⟨z, 1, none⟩)) (w2 := wv) ?_ (hK _ _ (Grow.refl _) rfl)
                      go_simp
                      (try (intro h; omega))
                    · refine stageOf_free rfl (fun us vals wv a' ha hd => ?_) ?_
                      · obtain ⟨_, d3, _⟩ := hd
                        have q : a'.tmps[101]? = some (us 3) := slot_get ha 3 (by kernel_rfl) (by kernel_rfl)
                        rw [show us 3 = .bool false from d3] at q
                        exact wanted_some rfl rfl q
                      intro us vals wv a' ha hle hW hd hv K hK
                      obtain ⟨d4, _, _⟩ := hd
                      have q102 : a'.tmps[102]? = some (us 4) := slot_get ha 4 (by kernel_rfl) (by kernel_rfl)
                      rw [show us 4 = .pointer (some ⟨z, 1, none⟩) from d4] at q102
                      have hc := (HC.out wv hW).2.1
                      refine step_value (v := .int .i64 (p : Int)) (w2 := wv) ?_ (hK _ _ (Grow.refl _) rfl)
                      go_simp
                    · refine stageOf_free rfl (fun us vals wv a' ha hd => ?_) ?_
                      · obtain ⟨_, d3, _⟩ := hd
                        have q : a'.tmps[101]? = some (us 3) := slot_get ha 3 (by kernel_rfl) (by kernel_rfl)
                        rw [show us 3 = .bool false from d3] at q
                        exact wanted_some rfl rfl q
                      intro us vals wv a' ha hle hW hd hv K hK
                      obtain ⟨d5, _, _⟩ := hd
                      have q103 : a'.tmps[103]? = some (us 5) := slot_get ha 5 (by kernel_rfl) (by kernel_rfl)
                      rw [show us 5 = .int .i64 (p : Int) from d5] at q103
                      refine step_value (v := .bool false) (w2 := wv) ?_ (hK _ _ (Grow.refl _) rfl)
                      go_simp
                    · refine stageOf_free rfl (fun _ _ _ _ _ _ => wanted_none rfl) ?_
                      intro us vals wv a' ha hle hW hd hv K hK
                      obtain ⟨d3, d6, _⟩ := hd
                      have q101 : a'.tmps[101]? = some (us 3) := slot_get ha 3 (by kernel_rfl) (by kernel_rfl)
                      rw [show us 3 = .bool false from d3] at q101
                      have q104 : a'.tmps[104]? = some (us 6) := slot_get ha 6 (by kernel_rfl) (by kernel_rfl)
                      rw [show us 6 = .bool false from d6] at q104
                      refine step_value (v := .bool false) (w2 := wv) ?_ (hK _ _ (Grow.refl _) rfl)
                      go_simp
                    · refine stageOf_free rfl (fun _ _ _ _ _ _ => wanted_none rfl) ?_
                      intro us vals wv a' ha hle hW hd hv K hK
                      obtain ⟨d7, _, _⟩ := hd
                      have q105 : a'.tmps[105]? = some (us 7) := slot_get ha 7 (by kernel_rfl) (by kernel_rfl)
                      rw [show us 7 = .bool false from d7] at q105
                      exact step_value (w2 := wv) (by go_simp) (hK _ _ (Grow.refl _) rfl)
                    · refine stageOf_free rfl (fun us vals wv a' ha hd => ?_) ?_
                      · obtain ⟨d8, _⟩ := hd
                        have q : a'.tmps[106]? = some (us 8) := slot_get ha 8 (by kernel_rfl) (by kernel_rfl)
                        rw [show us 8 = .bool false from d8] at q
                        exact wanted_some rfl rfl q
                      intro us vals wv a' ha hle hW hd hv K hK
                      have q12 : a'.tmps[12]? = some (.pointer (some ⟨z, 0, none⟩)) := slot_old ha (by kernel_rfl) (by kernel_rfl)
                      refine step_value (v := .pointer (some ⟨z, 1, none⟩)) (w2 := wv) ?_ (hK _ _ (Grow.refl _) rfl)
                      go_simp
                      (try (intro h; omega))
                    · refine stageOf_free rfl (fun us vals wv a' ha hd => ?_) ?_
                      · obtain ⟨_, d8, _⟩ := hd
                        have q : a'.tmps[106]? = some (us 8) := slot_get ha 8 (by kernel_rfl) (by kernel_rfl)
                        rw [show us 8 = .bool false from d8] at q
                        exact wanted_some rfl rfl q
                      intro us vals wv a' ha hle hW hd hv K hK
                      obtain ⟨d9, _, _⟩ := hd
                      have q107 : a'.tmps[107]? = some (us 9) := slot_get ha 9 (by kernel_rfl) (by kernel_rfl)
                      rw [show us 9 = .pointer (some ⟨z, 1, none⟩) from d9] at q107
                      have hc := (HC.out wv hW).2.1
                      refine step_value (v := .int .i64 (p : Int)) (w2 := wv) ?_ (hK _ _ (Grow.refl _) rfl)
                      go_simp
                    · refine stageOf_free rfl (fun us vals wv a' ha hd => ?_) ?_
                      · obtain ⟨d8, _⟩ := hd
                        have q : a'.tmps[106]? = some (us 8) := slot_get ha 8 (by kernel_rfl) (by kernel_rfl)
                        rw [show us 8 = .bool false from d8] at q
                        exact wanted_some rfl rfl q
                      intro us vals wv a' ha hle hW hd hv K hK
                      have q9 : a'.tmps[9]? = some (.slice (some ⟨w3.heap.size, 0, none⟩) N N) := slot_old ha (by kernel_rfl) (by kernel_rfl)
                      exact step_value (w2 := wv) (by go_simp) (hK _ _ (Grow.refl _) rfl)
                    · refine stageOf_free rfl (fun us vals wv a' ha hd => ?_) ?_
                      · obtain ⟨_, d8, _⟩ := hd
                        have q : a'.tmps[106]? = some (us 8) := slot_get ha 8 (by kernel_rfl) (by kernel_rfl)
                        rw [show us 8 = .bool false from d8] at q
                        exact wanted_some rfl rfl q
                      intro us vals wv a' ha hle hW hd hv K hK
                      obtain ⟨d11, _, _⟩ := hd
                      have q109 : a'.tmps[109]? = some (us 11) := slot_get ha 11 (by kernel_rfl) (by kernel_rfl)
                      rw [show us 11 = .slice (some ⟨w3.heap.size, 0, none⟩) N N from d11] at q109
                      refine step_value (v := .int .i64 (N : Int)) (w2 := wv) ?_ (hK _ _ (Grow.refl _) rfl)
                      go_simp
                    · refine stageOf_free rfl (fun us vals wv a' ha hd => ?_) ?_
                      · obtain ⟨_, _, d8, _⟩ := hd
                        have q : a'.tmps[106]? = some (us 8) := slot_get ha 8 (by kernel_rfl) (by kernel_rfl)
                        rw [show us 8 = .bool false from d8] at q
                        exact wanted_some rfl rfl q
                      intro us vals wv a' ha hle hW hd hv K hK
                      obtain ⟨d10, d12, _, _⟩ := hd
                      have q108 : a'.tmps[108]? = some (us 10) := slot_get ha 10 (by kernel_rfl) (by kernel_rfl)
                      rw [show us 10 = .int .i64 (p : Int) from d10] at q108
                      have q110 : a'.tmps[110]? = some (us 12) := slot_get ha 12 (by kernel_rfl) (by kernel_rfl)
                      rw [show us 12 = .int .i64 (N : Int) from d12] at q110
                      refine step_value (v := .bool false) (w2 := wv) ?_ (hK _ _ (Grow.refl _) rfl)
                      go_simp
                    · refine stageOf_free rfl (fun _ _ _ _ _ _ => wanted_none rfl) ?_
                      intro us vals wv a' ha hle hW hd hv K hK
                      obtain ⟨d8, d13, _⟩ := hd
                      have q106 : a'.tmps[106]? = some (us 8) := slot_get ha 8 (by kernel_rfl) (by kernel_rfl)
                      rw [show us 8 = .bool false from d8] at q106
                      have q111 : a'.tmps[111]? = some (us 13) := slot_get ha 13 (by kernel_rfl) (by kernel_rfl)
                      rw [show us 13 = .bool false from d13] at q111
                      refine step_value (v := .bool false) (w2 := wv) ?_ (hK _ _ (Grow.refl _) rfl)
                      go_simp
                    · refine stageOf_free rfl (fun _ _ _ _ _ _ => wanted_none rfl) ?_
                      intro us vals wv a' ha hle hW hd hv K hK
                      obtain ⟨d14, _, _⟩ := hd
                      have q112 : a'.tmps[112]? = some (us 14) := slot_get ha 14 (by kernel_rfl) (by kernel_rfl)
                      rw [show us 14 = .bool false from d14] at q112
                      exact step_value (w2 := wv) (by go_simp) (hK _ _ (Grow.refl _) rfl)
                    · refine stageOf_free rfl (fun us vals wv a' ha hd => ?_) ?_
                      · obtain ⟨d15, _⟩ := hd
                        have q : a'.tmps[113]? = some (us 15) := slot_get ha 15 (by kernel_rfl) (by kernel_rfl)
                        rw [show us 15 = .bool false from d15] at q
                        exact wanted_some rfl rfl q
                      intro us vals wv a' ha hle hW hd hv K hK
                      have q9 : a'.tmps[9]? = some (.slice (some ⟨w3.heap.size, 0, none⟩) N N) := slot_old ha (by kernel_rfl) (by kernel_rfl)
                      exact step_value (w2 := wv) (by go_simp) (hK _ _ (Grow.refl _) rfl)
                    · refine stageOf_free rfl (fun us vals wv a' ha hd => ?_) ?_
                      · obtain ⟨d15, _⟩ := hd
                        have q : a'.tmps[113]? = some (us 15) := slot_get ha 15 (by kernel_rfl) (by kernel_rfl)
                        rw [show us 15 = .bool false from d15] at q
                        exact wanted_some rfl rfl q
                      intro us vals wv a' ha hle hW hd hv K hK
                      have q12 : a'.tmps[12]? = some (.pointer (some ⟨z, 0, none⟩)) := slot_old ha (by kernel_rfl) (by kernel_rfl)
                      refine step_value (v := .pointer (some ⟨z, 1, none⟩)) (w2 := wv) ?_ (hK _ _ (Grow.refl _) rfl)
                      go_simp
                      (try (intro h; omega))
                    · refine stageOf_free rfl (fun us vals wv a' ha hd => ?_) ?_
                      · obtain ⟨_, d15, _⟩ := hd
                        have q : a'.tmps[113]? = some (us 15) := slot_get ha 15 (by kernel_rfl) (by kernel_rfl)
                        rw [show us 15 = .bool false from d15] at q
                        exact wanted_some rfl rfl q
                      intro us vals wv a' ha hle hW hd hv K hK
                      obtain ⟨d17, _, _⟩ := hd
                      have q115 : a'.tmps[115]? = some (us 17) := slot_get ha 17 (by kernel_rfl) (by kernel_rfl)
                      rw [show us 17 = .pointer (some ⟨z, 1, none⟩) from d17] at q115
                      have hc := (HC.out wv hW).2.1
                      refine step_value (v := .int .i64 (p : Int)) (w2 := wv) ?_ (hK _ _ (Grow.refl _) rfl)
                      go_simp
                    · refine stageOf_free rfl (fun us vals wv a' ha hd => ?_) ?_
                      · obtain ⟨_, _, d15, _⟩ := hd
                        have q : a'.tmps[113]? = some (us 15) := slot_get ha 15 (by kernel_rfl) (by kernel_rfl)
                        rw [show us 15 = .bool false from d15] at q
                        exact wanted_some rfl rfl q
                      intro us vals wv a' ha hle hW hd hv K hK
                      obtain ⟨d16, d18, _, _⟩ := hd
                      have q114 : a'.tmps[114]? = some (us 16) := slot_get ha 16 (by kernel_rfl) (by kernel_rfl)
                      rw [show us 16 = .slice (some ⟨w3.heap.size, 0, none⟩) N N from d16] at q114
                      have q116 : a'.tmps[116]? = some (us 18) := slot_get ha 18 (by kernel_rfl) (by kernel_rfl)
                      rw [show us 18 = .int .i64 (p : Int) from d18] at q116
                      refine step_value (v := .pointer (some ⟨w3.heap.size, p, none⟩)) (w2 := wv) ?_ (hK _ _ (Grow.refl _) rfl)
                      go_simp
                      (try (intro h; omega))
                    · refine stageOf_free rfl (fun us vals wv a' ha hd => ?_) ?_
                      · obtain ⟨_, d15, _⟩ := hd
                        have q : a'.tmps[113]? = some (us 15) := slot_get ha 15 (by kernel_rfl) (by kernel_rfl)
                        rw [show us 15 = .bool false from d15] at q
                        exact wanted_some rfl rfl q
                      intro us vals wv a' ha hle hW hd hv K hK
                      obtain ⟨d19, _, _⟩ := hd
                      have q117 : a'.tmps[117]? = some (us 19) := slot_get ha 19 (by kernel_rfl) (by kernel_rfl)
                      rw [show us 19 = .pointer (some ⟨w3.heap.size, p, none⟩) from d19] at q117
                      have hc := (HC.out wv hW).2.2.1
                      refine step_value (v := .bool false) (w2 := wv) ?_ (hK _ _ (Grow.refl _) rfl)
                      go_simp
                    · refine stageOf_free rfl (fun _ _ _ _ _ _ => wanted_none rfl) ?_
                      intro us vals wv a' ha hle hW hd hv K hK
                      obtain ⟨d15, d20, _⟩ := hd
                      have q113 : a'.tmps[113]? = some (us 15) := slot_get ha 15 (by kernel_rfl) (by kernel_rfl)
                      rw [show us 15 = .bool false from d15] at q113
                      have q118 : a'.tmps[118]? = some (us 20) := slot_get ha 20 (by kernel_rfl) (by kernel_rfl)
                      rw [show us 20 = .bool false from d20] at q118
                      refine step_value (v := .bool false) (w2 := wv) ?_ (hK _ _ (Grow.refl _) rfl)
                      go_simp
                    · refine stageOf_free rfl (fun _ _ _ _ _ _ => wanted_none rfl) ?_
                      intro us vals wv a' ha hle hW hd hv K hK
                      obtain ⟨d21, _, _⟩ := hd
                      have q119 : a'.tmps[119]? = some (us 21) := slot_get ha 21 (by kernel_rfl) (by kernel_rfl)
                      rw [show us 21 = .bool false from d21] at q119
                      exact step_value (w2 := wv) (by go_simp) (hK _ _ (Grow.refl _) rfl)
                    · refine stageOf_free rfl (fun us vals wv a' ha hd => ?_) ?_
                      · obtain ⟨d22, _⟩ := hd
                        have q : a'.tmps[120]? = some (us 22) := slot_get ha 22 (by kernel_rfl) (by kernel_rfl)
                        rw [show us 22 = .bool false from d22] at q
                        exact wanted_some rfl rfl q
                      intro us vals wv a' ha hle hW hd hv K hK
                      have q11 : a'.tmps[11]? = some (.int .i64 (k : Int)) := slot_old ha (by kernel_rfl) (by kernel_rfl)
                      exact step_value (w2 := wv) (by go_simp) (hK _ _ (Grow.refl _) rfl)
                    · refine stageOf_free rfl (fun us vals wv a' ha hd => ?_) ?_
                      · obtain ⟨_, d22, _⟩ := hd
                        have q : a'.tmps[120]? = some (us 22) := slot_get ha 22 (by kernel_rfl) (by kernel_rfl)
                        rw [show us 22 = .bool false from d22] at q
                        exact wanted_some rfl rfl q
                      intro us vals wv a' ha hle hW hd hv K hK
                      obtain ⟨d23, _, _⟩ := hd
                      have q121 : a'.tmps[121]? = some (us 23) := slot_get ha 23 (by kernel_rfl) (by kernel_rfl)
                      rw [show us 23 = .int .i64 (k : Int) from d23] at q121
                      refine step_value (v := .bool true) (w2 := wv) ?_ (hK _ _ (Grow.refl _) rfl)
                      go_simp
                      exact H0.out
                    · refine stageOf_free rfl (fun us vals wv a' ha hd => ?_) ?_
                      · obtain ⟨_, d22, _, _⟩ := hd
                        have q : a'.tmps[120]? = some (us 22) := slot_get ha 22 (by kernel_rfl) (by kernel_rfl)
                        rw [show us 22 = .bool false from d22] at q
                        exact wanted_some rfl rfl q
                      intro us vals wv a' ha hle hW hd hv K hK
                      obtain ⟨d24, _, _, _⟩ := hd
                      have q122 : a'.tmps[122]? = some (us 24) := slot_get ha 24 (by kernel_rfl) (by kernel_rfl)
                      rw [show us 24 = .bool true from d24] at q122
                      exact step_value (w2 := wv) (by go_simp) (hK _ _ (Grow.refl _) rfl)
                    · refine stageOf_free rfl (fun us vals wv a' ha hd => ?_) ?_
                      · obtain ⟨d25, _⟩ := hd
                        have q : a'.tmps[123]? = some (us 25) := slot_get ha 25 (by kernel_rfl) (by kernel_rfl)
                        rw [show us 25 = .bool true from d25] at q
                        exact wanted_some rfl rfl q
                      intro us vals wv a' ha hle hW hd hv K hK
                      have q7 : a'.tmps[7]? = some (.slice (some ⟨b1, o1, none⟩) m c1) := slot_old ha (by kernel_rfl) (by kernel_rfl)
                      exact step_value (w2 := wv) (by go_simp) (hK _ _ (Grow.refl _) rfl)
                    · refine stageOf_free rfl (fun us vals wv a' ha hd => ?_) ?_
                      · obtain ⟨d25, _⟩ := hd
                        have q : a'.tmps[123]? = some (us 25) := slot_get ha 25 (by kernel_rfl) (by kernel_rfl)
                        rw [show us 25 = .bool true from d25] at q
                        exact wanted_some rfl rfl q
                      intro us vals wv a' ha hle hW hd hv K hK
                      have q10 : a'.tmps[10]? = some (.int .i64 (i : Int)) := slot_old ha (by kernel_rfl) (by kernel_rfl)
                      exact step_value (w2 := wv) (by go_simp) (hK _ _ (Grow.refl _) rfl)
                    · refine stageOf_free rfl (fun us vals wv a' ha hd => ?_) ?_
                      · obtain ⟨_, _, d25, _⟩ := hd
                        have q : a'.tmps[123]? = some (us 25) := slot_get ha 25 (by kernel_rfl) (by kernel_rfl)
                        rw [show us 25 = .bool true from d25] at q
                        exact wanted_some rfl rfl q
                      intro us vals wv a' ha hle hW hd hv K hK
                      obtain ⟨d26, d27, _, _⟩ := hd
                      have q124 : a'.tmps[124]? = some (us 26) := slot_get ha 26 (by kernel_rfl) (by kernel_rfl)
                      rw [show us 26 = .slice (some ⟨b1, o1, none⟩) m c1 from d26] at q124
                      have q125 : a'.tmps[125]? = some (us 27) := slot_get ha 27 (by kernel_rfl) (by kernel_rfl)
                      rw [show us 27 = .int .i64 (i : Int) from d27] at q125
                      refine step_value (v := .pointer (some ⟨b1, o1 + i * 2, none⟩)) (w2 := wv) ?_ (hK _ _ (Grow.refl _) rfl)
                      go_simp
                      (try (intro h; omega))
                    · refine stageOf_free rfl (fun us vals wv a' ha hd => ?_) ?_
                      · obtain ⟨_, d25, _⟩ := hd
                        have q : a'.tmps[123]? = some (us 25) := slot_get ha 25 (by kernel_rfl) (by kernel_rfl)
                        rw [show us 25 = .bool true from d25] at q
                        exact wanted_some rfl rfl q
                      intro us vals wv a' ha hle hW hd hv K hK
                      obtain ⟨d28, _, _⟩ := hd
                      have q126 : a'.tmps[126]? = some (us 28) := slot_get ha 28 (by kernel_rfl) (by kernel_rfl)
                      rw [show us 28 = .pointer (some ⟨b1, o1 + i * 2, none⟩) from d28] at q126
                      refine step_value (v := .pointer (some ⟨b1, o1 + i * 2 + 1, none⟩)) (w2 := wv) ?_ (hK _ _ (Grow.refl _) rfl)
                      go_simp
                      (try (intro h; omega))
                    · refine stageOf_free rfl (fun us vals wv a' ha hd => ?_) ?_
                      · obtain ⟨_, d25, _⟩ := hd
                        have q : a'.tmps[123]? = some (us 25) := slot_get ha 25 (by kernel_rfl) (by kernel_rfl)
                        rw [show us 25 = .bool true from d25] at q
                        exact wanted_some rfl rfl q
                      intro us vals wv a' ha hle hW hd hv K hK
                      obtain ⟨d29, _, _⟩ := hd
                      have q127 : a'.tmps[127]? = some (us 29) := slot_get ha 29 (by kernel_rfl) (by kernel_rfl)
                      rw [show us 29 = .pointer (some ⟨b1, o1 + i * 2 + 1, none⟩) from d29] at q127
                      have hc := (HC.out wv hW).2.2.2
                      refine step_value (v := .slice (some ⟨b2, o2, none⟩) n2 c2) (w2 := wv) ?_ (hK _ _ (Grow.refl _) rfl)
                      go_simp
                    · refine stageOf_free rfl (fun us vals wv a' ha hd => ?_) ?_
                      · obtain ⟨d25, _⟩ := hd
                        have q : a'.tmps[123]? = some (us 25) := slot_get ha 25 (by kernel_rfl) (by kernel_rfl)
                        rw [show us 25 = .bool true from d25] at q
                        exact wanted_some rfl rfl q
                      intro us vals wv a' ha hle hW hd hv K hK
                      have q11 : a'.tmps[11]? = some (.int .i64 (k : Int)) := slot_old ha (by kernel_rfl) (by kernel_rfl)
                      exact step_value (w2 := wv) (by go_simp) (hK _ _ (Grow.refl _) rfl)
                    · refine stageOf_free rfl (fun us vals wv a' ha hd => ?_) ?_
                      · obtain ⟨_, d25, _⟩ := hd
                        have q : a'.tmps[123]? = some (us 25) := slot_get ha 25 (by kernel_rfl) (by kernel_rfl)
                        rw [show us 25 = .bool true from d25] at q
                        exact wanted_some rfl rfl q
                      intro us vals wv a' ha hle hW hd hv K hK
                      obtain ⟨d31, _, _⟩ := hd
                      have q129 : a'.tmps[129]? = some (us 31) := slot_get ha 31 (by kernel_rfl) (by kernel_rfl)
                      rw [show us 31 = .int .i64 (k : Int) from d31] at q129
                      refine step_value (v := .int .i64 (j : Int)) (w2 := wv) ?_ (hK _ _ (Grow.refl _) rfl)
                      go_simp
                      rw [IntKind.wrap_i64]
                      omega
                    · refine stageOf_free rfl (fun us vals wv a' ha hd => ?_) ?_
                      · obtain ⟨_, _, d25, _⟩ := hd
                        have q : a'.tmps[123]? = some (us 25) := slot_get ha 25 (by kernel_rfl) (by kernel_rfl)
                        rw [show us 25 = .bool true from d25] at q
                        exact wanted_some rfl rfl q
                      intro us vals wv a' ha hle hW hd hv K hK
                      obtain ⟨d30, d32, _, _⟩ := hd
                      have q128 : a'.tmps[128]? = some (us 30) := slot_get ha 30 (by kernel_rfl) (by kernel_rfl)
                      rw [show us 30 = .slice (some ⟨b2, o2, none⟩) n2 c2 from d30] at q128
                      have q130 : a'.tmps[130]? = some (us 32) := slot_get ha 32 (by kernel_rfl) (by kernel_rfl)
                      rw [show us 32 = .int .i64 ((j : Int)) from d32] at q130
                      refine step_value (v := .pointer (some ⟨b2, o2 + j * 2, none⟩)) (w2 := wv) ?_ (hK _ _ (Grow.refl _) rfl)
                      go_simp
                      (try (intro h; omega))
                    · refine stageOf_free rfl (fun us vals wv a' ha hd => ?_) ?_
                      · obtain ⟨_, d25, _⟩ := hd
                        have q : a'.tmps[123]? = some (us 25) := slot_get ha 25 (by kernel_rfl) (by kernel_rfl)
                        rw [show us 25 = .bool true from d25] at q
                        exact wanted_some rfl rfl q
                      intro us vals wv a' ha hle hW hd hv K hK
                      obtain ⟨d33, _, _⟩ := hd
                      have q131 : a'.tmps[131]? = some (us 33) := slot_get ha 33 (by kernel_rfl) (by kernel_rfl)
                      rw [show us 33 = .pointer (some ⟨b2, o2 + j * 2, none⟩) from d33] at q131
                      refine step_value (v := .pointer (some ⟨b2, o2 + j * 2 + 1, none⟩)) (w2 := wv) ?_ (hK _ _ (Grow.refl _) rfl)
                      go_simp
                      (try (intro h; omega))
                    · refine stageOf_free rfl (fun us vals wv a' ha hd => ?_) ?_
                      · obtain ⟨_, d25, _⟩ := hd
                        have q : a'.tmps[123]? = some (us 25) := slot_get ha 25 (by kernel_rfl) (by kernel_rfl)
                        rw [show us 25 = .bool true from d25] at q
                        exact wanted_some rfl rfl q
                      intro us vals wv a' ha hle hW hd hv K hK
                      obtain ⟨d34, _, _⟩ := hd
                      have q132 : a'.tmps[132]? = some (us 34) := slot_get ha 34 (by kernel_rfl) (by kernel_rfl)
                      rw [show us 34 = .pointer (some ⟨b2, o2 + j * 2 + 1, none⟩) from d34] at q132
                      have hc := HP.out wv hW
                      refine step_value (v := .int .i64 (pp : Int)) (w2 := wv) ?_ (hK _ _ (Grow.refl _) rfl)
                      go_simp
                    · refine stageOf_free rfl (fun us vals wv a' ha hd => ?_) ?_
                      · obtain ⟨d25, _⟩ := hd
                        have q : a'.tmps[123]? = some (us 25) := slot_get ha 25 (by kernel_rfl) (by kernel_rfl)
                        rw [show us 25 = .bool true from d25] at q
                        exact wanted_some rfl rfl q
                      intro us vals wv a' ha hle hW hd hv K hK
                      have q12 : a'.tmps[12]? = some (.pointer (some ⟨z, 0, none⟩)) := slot_old ha (by kernel_rfl) (by kernel_rfl)
                      refine step_value (v := .pointer (some ⟨z, 1, none⟩)) (w2 := wv) ?_ (hK _ _ (Grow.refl _) rfl)
                      go_simp
                      (try (intro h; omega))
                    · refine stageOf_free rfl (fun us vals wv a' ha hd => ?_) ?_
                      · obtain ⟨_, d25, _⟩ := hd
                        have q : a'.tmps[123]? = some (us 25) := slot_get ha 25 (by kernel_rfl) (by kernel_rfl)
                        rw [show us 25 = .bool true from d25] at q
                        exact wanted_some rfl rfl q
                      intro us vals wv a' ha hle hW hd hv K hK
                      obtain ⟨d36, _, _⟩ := hd
                      have q134 : a'.tmps[134]? = some (us 36) := slot_get ha 36 (by kernel_rfl) (by kernel_rfl)
                      rw [show us 36 = .pointer (some ⟨z, 1, none⟩) from d36] at q134
                      have hc := (HC.out wv hW).2.1
                      refine step_value (v := .int .i64 (p : Int)) (w2 := wv) ?_ (hK _ _ (Grow.refl _) rfl)
                      go_simp
                    · refine stageOf_free rfl (fun us vals wv a' ha hd => ?_) ?_
                      · obtain ⟨_, _, d25, _⟩ := hd
                        have q : a'.tmps[123]? = some (us 25) := slot_get ha 25 (by kernel_rfl) (by kernel_rfl)
                        rw [show us 25 = .bool true from d25] at q
                        exact wanted_some rfl rfl q
                      intro us vals wv a' ha hle hW hd hv K hK
                      obtain ⟨d35, d37, _, _⟩ := hd
                      have q133 : a'.tmps[133]? = some (us 35) := slot_get ha 35 (by kernel_rfl) (by kernel_rfl)
                      rw [show us 35 = .int .i64 (pp : Int) from d35] at q133
                      have q135 : a'.tmps[135]? = some (us 37) := slot_get ha 37 (by kernel_rfl) (by kernel_rfl)
                      rw [show us 37 = .int .i64 (p : Int) from d37] at q135
                      refine step_value (v := .bool false) (w2 := wv) ?_ (hK _ _ (Grow.refl _) rfl)
                      go_simp
                      exact H8.out
                    · refine stageOf_free rfl (fun us vals wv a' ha hd => ?_) ?_
                      · obtain ⟨_, _, d22, _⟩ := hd
                        have q : a'.tmps[120]? = some (us 22) := slot_get ha 22 (by kernel_rfl) (by kernel_rfl)
                        rw [show us 22 = .bool false from d22] at q
                        exact wanted_some rfl rfl q
                      intro us vals wv a' ha hle hW hd hv K hK
                      obtain ⟨d25, d38, _, _⟩ := hd
                      have q123 : a'.tmps[123]? = some (us 25) := slot_get ha 25 (by kernel_rfl) (by kernel_rfl)
                      rw [show us 25 = .bool true from d25] at q123
                      have q136 : a'.tmps[136]? = some (us 38) := slot_get ha 38 (by kernel_rfl) (by kernel_rfl)
                      rw [show us 38 = .bool false from d38] at q136
                      refine step_value (v := .bool false) (w2 := wv) ?_ (hK _ _ (Grow.refl _) rfl)
                      go_simp
                    · refine stageOf_free rfl (fun _ _ _ _ _ _ => wanted_none rfl) ?_
                      intro us vals wv a' ha hle hW hd hv K hK
                      obtain ⟨d22, d39, _⟩ := hd
                      have q120 : a'.tmps[120]? = some (us 22) := slot_get ha 22 (by kernel_rfl) (by kernel_rfl)
                      rw [show us 22 = .bool false from d22] at q120
                      have q137 : a'.tmps[137]? = some (us 39) := slot_get ha 39 (by kernel_rfl) (by kernel_rfl)
                      rw [show us 39 = .bool false from d39] at q137
                      refine step_value (v := .bool false) (w2 := wv) ?_ (hK _ _ (Grow.refl _) rfl)
                      go_simp
                  · intro us vals w3' hle hvl hV _ hf
                    exact hMx _ _ (Met.intro (hJx _ _ ⟨us 0, us 1, us 2, us 3, us 4, us 5, us 6, us 7, us 8, us 9, us 10, us 11, us 12, us 13, us 14, us 15, us 16, us 17, us 18, us 19, us 20, us 21, us 22, us 23, us 24, us 25, us 26, us 27, us 28, us 29, us 30, us 31, us 32, us 33, us 34, us 35, us 36, us 37, us 38, us 39, us 40, ⟨_, rfl, hf 40 (by decide) rfl, hV⟩, by kernel_rfl⟩))
              case rest =>
                obtain ⟨W9, rfl, rfl, hg9⟩ := hcut
                have hbz := (Keep.grow (S := fun _ => False) hg9).blk Hbq.out (fun h => h)
                have hsb := (Keep.grow (S := fun _ => False) hg9).blk Hsq.out (fun h => h)
                have hkb := Hkq.out.trans' (Keep.grow hg9)
                have hc1 := hbz.cell 1
                have hcs := (hsb.cell p).trans Hrow.out
                have hfs := hsb.frozen p
                clear Hbq Hsq Hkq HC hg9
                go_upto_region 19 with (fail)
                obtain ⟨wv, hwv⟩ : ∃ wv, W9.setCell ⟨w3.heap.size, p, none⟩ (.bool true) = wv := ⟨_, rfl⟩
                have hzv : Blk wv z 45 #[.int .i64 0, .int .i64 (p : Int)] := by rw [← hwv]; exact hbz.far hzne _
                have hsv : Blk wv w3.heap.size 4 (rowM gs Q N i (k + 1)) := by
                  have h := hsb.set p (.bool true)
                  rw [rowM_set Hrest.out.2.2.2.1 Hp.out, hwv] at h
                  exact h
                have hkv : Keep (fun j => j = w3.heap.size) W0 wv := by rw [← hwv]; exact hkb.trans' (show Keep (fun j => j = w3.heap.size) W9 (W9.setCell ⟨w3.heap.size, p, none⟩ (.bool true)) from Keep.setCell W9 ⟨w3.heap.size, p, none⟩ (.bool true))
                rw [hwv]
                clear hwv hbz hsb hkb hc1 hcs hfs
                have hc1 := hzv.cell 1
                have hbv : BytesAt wv B A n b := Hb1.out.below (Below.trans (Below.mono (Hg2.out.trans (Hg3.out.trans HgW.out)) hB1) (hkv.below (B := B) (fun j hj => by have := Hg2.out.size; have := Hg3.out.size; omega) (by have := Hg2.out.size; have := Hg3.out.size; omega)))
                have hat := at_any wv B A n c b (p : Int) hbv hnc (by omega) (by omega) (by omega)
                have hav : atV (grams b) (p : Int) = .tuple #[.string (grS g), .bool true] := by
                  unfold atV
                  rw [if_pos (by omega), Int.toNat_natCast, ← Hgs.out, (mem_posOf.1 (List.mem_of_getElem? Hp.out)).2]
                rw [hav] at hat
                have Hat := Lib.hid hat
                have q1 := (Hcl.out wv hkv).1
                have Hsv := Lib.hid hsv
                have Hkv := Lib.hid hkv
                clear hat hav hbv hzv hsv hkv
                go_wp2_with (go_at_call 7; refine Hat.out.mono ?_; rintro e w9 ⟨rfl, rfl⟩)
                go_roundw
                case rel => exact ⟨k + 1, by omega, by go_num, Hsv.out, Hkv.out⟩
                case measure => simp [intOf]; omega
            · have d5 : decide ((k : Int) < (n2 : Int)) = false := decide_eq_false (by omega)
              have hs1 : Blk wi w3.heap.size 4 (rowM gs Q N (i + 1) 0) := by
                have h := hs.out
                rw [show k = (posOf gs g gs.length).length by rw [← Hrest.out.2.2.1]; omega, HN.out, rowM_row Hrest.out.2.2.2.1, ← HN.out] at h
                exact h
              have Hs1 := Lib.hid hs1
              clear hs hs1
              go_wp2_with fail
              go_roundw
              case rel => exact ⟨i + 1, by omega, by go_num, Hs1.out, hk⟩
              case measure => simp [intOf]; omega
      · have d2 : decide ((i : Int) < (m : Int)) = false := decide_eq_false (by omega)
        have hse : Blk wr w3.heap.size 4 (List.replicate N (Value.bool true)).toArray := by
          have h := hs.out
          rw [show i = m by omega, Hm.out, HQ.out, HN.out, rowM_end, ← HN.out] at h
          exact h
        obtain ⟨wo, rfl⟩ : ∃ wo : World, wo = wr := ⟨_, rfl⟩
        have hbo : BoolsAt wo wo.heap.size (some ⟨w3.heap.size, 0, none⟩) N (List.replicate N true) := by
          unfold BoolsAt
          rw [List.map_replicate]
          exact ⟨by simp, fun _ => ⟨w3.heap.size, 0, rfl, hse.lt, fun j u hu => by
            rw [hse.cell, Nat.zero_add]
            rw [List.getElem?_toArray]
            exact hu⟩⟩
        have Hhb := Lib.hid (hasBool_any wo wo.heap.size _ N N _ false hbo (by have := Hgl.out; unfold maxLen; omega))
        have hww : Grow w wo := Below.trans (Hg1.out.trans (Hg2.out.trans (Hg3.out.trans HgW.out))) (hk.out.below (B := w.heap.size) (fun j hj => by have := Hg1.out.size; have := Hg2.out.size; have := Hg3.out.size; omega) (by have := Hg1.out.size; have := Hg2.out.size; have := Hg3.out.size; have := HgW.out.size; omega))
        have Hww := Lib.hid hww
        have Hk := Lib.hid hk
        have hee : ((m : Int) != (m : Int)) = false := by simp
        clear hbo hse hs hww hk
        go_wp2_with fail
        refine Hhb.out.mono ?_
        rintro e w4 ⟨bb, rfl, hbb, rfl⟩
        obtain rfl : bb = false := by
          cases bb with
          | false => rfl
          | true => exact absurd (hbb.1 rfl) (by simp)
        clear hbb Hhb
        go_upto_region 24 with (fail)
        by_cases a1 : i0 < 0
        · have d6 : decide (i0 < 0) = true := decide_eq_true a1
          go_wp2_with fail
          go_ret
          exact ⟨rfl, Hww.out⟩
        · have d6 : decide (i0 < 0) = false := decide_eq_false a1
          by_cases a2 : (n : Int) < j0
          · have d7 : decide ((n : Int) < j0) = true := decide_eq_true a2
            clear a1
            go_wp2_with fail
            go_ret
            exact ⟨rfl, Hww.out⟩
          · have d7 : decide ((n : Int) < j0) = false := decide_eq_false a2
            by_cases a3 : j0 < i0
            · have d8 : decide (j0 < i0) = true := decide_eq_true a3
              clear a1 a2
              go_wp2_with fail
              go_ret
              exact ⟨rfl, Hww.out⟩
            · have d8 : decide (j0 < i0) = false := decide_eq_false a3
              obtain ⟨x, rfl⟩ : ∃ x : Nat, i0 = (x : Int) := ⟨i0.toNat, by omega⟩
              obtain ⟨y, rfl⟩ : ∃ y : Nat, j0 = (y : Int) := ⟨j0.toNat, by omega⟩
              have hxy : x ≤ y := by omega
              have hyn : y ≤ n := by omega
              clear a1 a2 a3
              have hk4 := Hk.out
              have hb4 : BytesAt w4 B A n b := Hb1.out.below (Below.trans (Below.mono (Hg2.out.trans (Hg3.out.trans HgW.out)) hB1) (hk4.below (B := B) (fun j hj => by have := Hg2.out.size; have := Hg3.out.size; omega) (by have := Hg2.out.size; have := Hg3.out.size; have := HgW.out.size; omega)))
              have hB4 : B ≤ w4.heap.size := by have := Hg2.out.size; have := Hg3.out.size; have := HgW.out.size; have := hk4.size; omega
              have h34 : ReadsAt w4 w3.heap.size 1 A3 m (grT Q) := H33.out.below (hk4.below (fun j hj => by omega) HgW.out.size)
              have hz34 : w3.heap.size ≤ w4.heap.size := Nat.le_trans HgW.out.size hk4.size
              have Hpt := Lib.hid (part_at hb4 hxy hyn)
              have Hgp := Lib.hid (fun (A' : Option Addr) (c' : Nat) (h1 : BytesAt w4 B A' (y - x) ((b.drop x).take (y - x))) (h2 : y - x ≤ c') (h3 : c' ≤ maxLen) => grams_any sortsG w4 B A' (y - x) c' ((b.drop x).take (y - x)) h1 hB4 h2 h3 (by omega))
              have H34 := Lib.hid h34
              have Hz34 := Lib.hid hz34
              clear hk4 hb4 hB4 h34 hz34 Hk H13 H33 HsW HgW Hg2 Hg3 HF2
              go_wp2_with fail
              · have hyx : y - x = 0 := by omega
                refine (Hgp.out A 0 (by rw [hyx, List.take_zero]; exact BytesAt.nil) (by omega) (by omega)).mono ?_
                rintro e w5 ⟨v5, rfl, hg5, ho5⟩
                obtain ⟨Q5, hQ5⟩ : ∃ Q5, Q5 = sortG (firsts [] (grams ((b.drop x).take (y - x)))) := ⟨_, rfl⟩
                rw [← hQ5] at ho5
                obtain ⟨m5, hm5⟩ : ∃ m5, m5 = Q5.length := ⟨_, rfl⟩
                rw [← hm5] at ho5
                obtain ⟨A5, c5, rfl, h51, h52, h53⟩ := own_reads ho5
                have hT5 : TextsAt w5 w3.heap.size A3 m (Q.map grS) := by
                  unfold TextsAt
                  have h := H34.out.below (Below.mono hg5 Hz34.out)
                  rw [List.map_map]
                  exact h
                have Hin := Lib.hid (show ∀ (t : Nat) (g : Gr), Q5[t]? = some g → grS g ∈ Q.map grS from fun t g hg => by
                  have h1 : g ∈ Q5 := List.mem_of_getElem? hg
                  rw [hQ5, mem_sortG] at h1
                  have h2 := grams_part h1
                  refine List.mem_map.2 ⟨g, ?_, rfl⟩
                  rw [HQ.out, Hgs.out, mem_sortG]
                  exact h2)
                have Hhas := Lib.hid (fun t => hasText_any w5 w3.heap.size A3 m c3 (Q.map grS) t hT5 (by omega))
                have Hw5 := Lib.hid (Below.trans Hww.out (Below.mono hg5 Hww.out.size))
                have H53 := Lib.hid h53
                have Hm5 := Lib.hid hm5
                have hm5z : m5 ≤ 9223372036854775807 := by unfold maxLen at h52; omega
                clear hg5 ho5 hQ5 hm5 h53 hT5 Hww Hgp H34 Hz34
                go_wp2_with fail
                go_loopw [16] (fun v16 wr => ∃ t : Nat, t ≤ m5 ∧ v16 = .int .i64 (t : Int) ∧ w5 = wr) (fun v16 _ => m5 - (intOf v16).toNat)
                case atStart => exact ⟨0, by omega, rfl, rfl⟩
                case round =>
                  obtain ⟨t, ht, rfl, rfl⟩ := hrel
                  by_cases hlt5 : t < m5
                  · have d9 : decide ((t : Int) < (m5 : Int)) = true := decide_eq_true (by omega)
                    obtain ⟨g5, hg5⟩ : ∃ g, Q5[t]? = some g := ⟨_, List.getElem?_eq_getElem (by rw [← Hm5.out]; exact hlt5)⟩
                    obtain ⟨b5, o5, rfl, hb5, hx5⟩ := (H53.out).2 (by omega)
                    have hc5 : w5.cell? ⟨b5, o5 + t, none⟩ = some (.string (grS g5)) := hx5 _ _ (by unfold grT; rw [List.getElem?_map, hg5]; rfl)
                    have Hh5 := Lib.hid (Hhas.out (grS g5))
                    have Hi5 := Lib.hid (Hin.out t g5 hg5)
                    clear hx5 hg5
                    go_wp2_with (go_at_call 21; refine Hh5.out.mono ?_; rintro e w6 ⟨bb, rfl, hbb, rfl⟩; obtain rfl : bb = true := hbb.2 Hi5.out)
                    go_roundw
                    case rel => exact ⟨t + 1, by omega, by go_num, by first | rfl | trivial⟩
                    case measure => simp [intOf]; omega
                  · have d9 : decide ((t : Int) < (m5 : Int)) = false := decide_eq_false (by omega)
                    go_wp2_with fail
                    go_ret
                    exact ⟨rfl, Hw5.out⟩
              · refine (Hgp.out _ (c - x) Hpt.out (by omega) (by have := Hcm.out; omega)).mono ?_
                rintro e w5 ⟨v5, rfl, hg5, ho5⟩
                obtain ⟨Q5, hQ5⟩ : ∃ Q5, Q5 = sortG (firsts [] (grams ((b.drop x).take (y - x)))) := ⟨_, rfl⟩
                rw [← hQ5] at ho5
                obtain ⟨m5, hm5⟩ : ∃ m5, m5 = Q5.length := ⟨_, rfl⟩
                rw [← hm5] at ho5
                obtain ⟨A5, c5, rfl, h51, h52, h53⟩ := own_reads ho5
                have hT5 : TextsAt w5 w3.heap.size A3 m (Q.map grS) := by
                  unfold TextsAt
                  have h := H34.out.below (Below.mono hg5 Hz34.out)
                  rw [List.map_map]
                  exact h
                have Hin := Lib.hid (show ∀ (t : Nat) (g : Gr), Q5[t]? = some g → grS g ∈ Q.map grS from fun t g hg => by
                  have h1 : g ∈ Q5 := List.mem_of_getElem? hg
                  rw [hQ5, mem_sortG] at h1
                  have h2 := grams_part h1
                  refine List.mem_map.2 ⟨g, ?_, rfl⟩
                  rw [HQ.out, Hgs.out, mem_sortG]
                  exact h2)
                have Hhas := Lib.hid (fun t => hasText_any w5 w3.heap.size A3 m c3 (Q.map grS) t hT5 (by omega))
                have Hw5 := Lib.hid (Below.trans Hww.out (Below.mono hg5 Hww.out.size))
                have H53 := Lib.hid h53
                have Hm5 := Lib.hid hm5
                have hm5z : m5 ≤ 9223372036854775807 := by unfold maxLen at h52; omega
                clear hg5 ho5 hQ5 hm5 h53 hT5 Hww Hgp H34 Hz34
                go_wp2_with fail
                go_loopw [16] (fun v16 wr => ∃ t : Nat, t ≤ m5 ∧ v16 = .int .i64 (t : Int) ∧ w5 = wr) (fun v16 _ => m5 - (intOf v16).toNat)
                case atStart => exact ⟨0, by omega, rfl, rfl⟩
                case round =>
                  obtain ⟨t, ht, rfl, rfl⟩ := hrel
                  by_cases hlt5 : t < m5
                  · have d9 : decide ((t : Int) < (m5 : Int)) = true := decide_eq_true (by omega)
                    obtain ⟨g5, hg5⟩ : ∃ g, Q5[t]? = some g := ⟨_, List.getElem?_eq_getElem (by rw [← Hm5.out]; exact hlt5)⟩
                    obtain ⟨b5, o5, rfl, hb5, hx5⟩ := (H53.out).2 (by omega)
                    have hc5 : w5.cell? ⟨b5, o5 + t, none⟩ = some (.string (grS g5)) := hx5 _ _ (by unfold grT; rw [List.getElem?_map, hg5]; rfl)
                    have Hh5 := Lib.hid (Hhas.out (grS g5))
                    have Hi5 := Lib.hid (Hin.out t g5 hg5)
                    clear hx5 hg5
                    go_wp2_with (go_at_call 21; refine Hh5.out.mono ?_; rintro e w6 ⟨bb, rfl, hbb, rfl⟩; obtain rfl : bb = true := hbb.2 Hi5.out)
                    go_roundw
                    case rel => exact ⟨t + 1, by omega, by go_num, by first | rfl | trivial⟩
                    case measure => simp [intOf]; omega
                  · have d9 : decide ((t : Int) < (m5 : Int)) = false := decide_eq_false (by omega)
                    go_wp2_with fail
                    go_ret
                    exact ⟨rfl, Hw5.out⟩
end Go.Proofs.Ytfjnjlcmikhehaa
