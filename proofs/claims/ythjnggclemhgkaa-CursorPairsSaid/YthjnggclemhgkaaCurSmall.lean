/-
  The walks of mudlarklaw20's pair, size and stands. Printed by gen/cursmall.py.
-/
import Derived.Deep.CutBlock
import Derived.Deep.CutRange
import Derived.Deep.DeepCutAuto
import Derived.Test.YthjnggclemhgkaaBaseD
import Derived.Test.YthjnggclemhgkaaBaseE
import Derived.Test.YthjnggclemhgkaaCurTree
import Derived.Test.YthjnggclemhgkaaCurNow
import Derived.Test.YthjnggclemhgkaaCurRef
namespace Go.Proofs.Ythjnggclemhgkaa
open Go.RowKit CurM
set_option linter.unusedVariables false

theorem Keep.toGrow {w w1 : World} (h : Keep (fun _ => False) w w1) : Grow w w1 := h.below (fun _ h => h.elim) (Nat.le_refl _)
def PairTo (l : List Int) (w : World) (e : Ending) (w' : World) : Prop := e = .returned (.tuple #[.int .i64 (pairA l), .int .i64 (pairB l)]) ∧ Grow w w'
set_option maxRecDepth 100000 in
set_option maxHeartbeats 2000000 in
theorem pair_any (w : World) (B : Nat) (A : Option Addr) (n c : Nat) (l : List Int) (hR : IntsAt w B A n l) (hB : B ≤ w.heap.size) (hn : n ≤ 17592186044400) (hw : ∀ x ∈ l, W64 x) :
    Calls Try.prog 16 #[.slice A n c] w (PairTo l w) := by
  have intsTy : AppTy Try.prog 22 3 (.int .i64 0) 1 8 := AppTy.mk' Try.underlying22 (by kernel_rfl) rfl (by decide)
  have Hlen := Lib.hid hR.len
  have Hw := Lib.hid hw
  have H1 := Lib.hid (show IntsAt (w.alloc (.cells #[] 3)) B A n l from hR.below (Below.mono (Grow.alloc w (.cells #[] 3)) hB))
  have ho0 : (w.alloc (.cells #[] 3)).ownsRow w.heap.size 3 1 (.slice (some ⟨w.heap.size, 0, none⟩) 0 0) 0 [] := World.ownsRow_lit w #[] 0 (Nat.le_refl _) (by decide) rfl
  have H0 := Lib.hid ho0
  have Hone := Lib.hid (show ∀ u ∈ l.map i64v, u.oneCell' = true from fun u hu => by
    obtain ⟨x, -, rfl⟩ := List.mem_map.1 hu
    rfl)
  clear hR hw ho0
  go_enter Try.func16, Try.ntmps16
  have G1 := Lib.hid (show 0 + n ≤ maxLen by unfold maxLen; omega)
  have G2 := Lib.hid (show (0 + n) * 8 ≤ 140737488355328 by omega)
  have G3 := Lib.hid (show w.heap.size ≤ (w.alloc (.cells #[] 3)).heap.size from (Grow.alloc _ _).size)
  have G4 := Lib.hid (show 0 + n + 2 ≤ maxLen by unfold maxLen; omega)
  have G5 := Lib.hid (show (0 + n + 2) * 8 ≤ 140737488355328 by omega)
  go_wp2_with (at_builtin; first | (refine wpList_append_reads _ rfl (.tmp 5) (.tmp 6) rfl intsTy rfl H0.out rfl H1.out Hone.out G1.out G2.out G3.out ?_; intro v1 w1 ho1 hg1 hat1; have hz1 := Nat.le_trans G3.out hg1.size; have Hg1 := Lib.hid hg1; have Hz2 := Lib.hid (Nat.le_trans hz1 (Grow.alloc w1 (.cells #[.int .i64 0, .int .i64 0] 3)).size); have Ho2 := Lib.hid (own_below ho1 (Grow.alloc w1 (.cells #[.int .i64 0, .int .i64 0] 3))); have Hr2 := Lib.hid (ReadsAt.made w1 3 [.int .i64 0, .int .i64 0]); clear ho1 hg1 hat1 hz1) | (refine wpList_append_reads _ rfl (.tmp 7) (.tmp 8) rfl intsTy rfl Ho2.out rfl Hr2.out (by simp [Value.oneCell']) G4.out G5.out Hz2.out ?_; intro v2 w2 ho2 hg2 hat2; have Ho3 := Lib.hid ho2; have Hg2 := Lib.hid hg2; clear ho2 hg2 hat2))
  obtain ⟨g, cap, rfl, -, -, -, -⟩ := own_slice Ho3.out (by omega)
  obtain ⟨x, hx⟩ : ∃ x, x = pairA l := ⟨_, rfl⟩
  obtain ⟨y, hy⟩ : ∃ y, y = (l ++ [0, 0]).getD 1 0 := ⟨_, rfl⟩
  have hrow : ReadsAt w2 w2.heap.size 1 (some ⟨g, 0, none⟩) (0 + n + 2) ((l ++ [0, 0]).map i64v) := by
    have h := ReadsAt.of_own Ho3.out
    rw [List.nil_append] at h
    rw [List.map_append]
    exact h
  have hgz := (Ho3.out.lt g rfl).2
  have hcell : ∀ i z, (l ++ [0, 0])[i]? = some z → ∀ w3, Keep (fun _ => False) w2 w3 → w3.cell? ⟨g, 0 + i, none⟩ = some (.int .i64 z) := fun i z hz w3 hle => by
    obtain ⟨b, off, e, hb, hc⟩ := hrow.2 (by omega)
    injection e with e
    injection e with e1 e2
    subst e1 e2
    rw [hle.cell (p := ⟨g, 0 + i, none⟩) hgz (fun h => h)]
    exact hc i (.int .i64 z) (by rw [List.getElem?_map, hz]; rfl)
  have h2 : ∀ i, i < 2 → (l ++ [0, 0])[i]? = some ((l ++ [0, 0]).getD i 0) := fun i hi => by
    rw [List.getD_eq_getElem?_getD, List.getElem?_eq_getElem (by simp; omega)]
    rfl
  have Hc0 := Lib.hid (show ∀ w3, Keep (fun _ => False) w2 w3 → w3.cell? ⟨g, 0, none⟩ = some (.int .i64 x) from by
    rw [hx]
    exact hcell 0 _ (h2 0 (by omega)))
  have Hc1 := Lib.hid (show ∀ w3, Keep (fun _ => False) w2 w3 → w3.cell? ⟨g, 0 + 1, none⟩ = some (.int .i64 y) from by
    rw [hy]
    exact hcell 1 _ (h2 1 (by omega)))
  have Hfin := Lib.hid (show PairTo l w (.returned (.tuple #[.int .i64 x, .int .i64 (min y (wrap64 (x + 300)))])) w2 from by
    refine ⟨by rw [hx, hy]; rfl, ?_⟩
    have h1 : Below w.heap.size (w.alloc (.cells #[] 3)) w1 := (Keep.grown Hg1.out).below (fun j hj => (H0.out.lt j hj).1) G3.out
    have h3 := (Keep.grown Hg2.out).below (fun j hj => (Ho2.out.lt j hj).1) Hz2.out
    exact Below.trans (Below.trans (Below.trans (Grow.alloc w _) h1) (Below.mono (Grow.alloc w1 _) (Nat.le_trans G3.out (Keep.grown Hg1.out).size))) h3)
  clear hrow hcell h2 hx hy
  refine wp_region_stages (by kernel_rfl) ?_
  refine anyOrder_start [] (Keep (fun _ => False)) (fun _ _ => True) (FactsOn [.is (.slice (some ⟨g, 0, none⟩) (0 + n + 2) cap), .is (.pointer (some ⟨g, 0, none⟩)), .is (.int .i64 x), .is (.slice (some ⟨g, 0, none⟩) (0 + n + 2) cap), .is (.pointer (some ⟨g, 0 + 1, none⟩)), .is (.int .i64 y), .is (.slice (some ⟨g, 0, none⟩) (0 + n + 2) cap), .is (.pointer (some ⟨g, 0, none⟩)), .is (.int .i64 x), .is (.int .i64 (wrap64 (x + 300))), .is (.int .i64 (min y (wrap64 (x + 300)))), .is (.int .i64 x), .is (.int .i64 (min y (wrap64 (x + 300))))]) (fun i => 99) keep_trans keep_grow (fun _ _ _ _ h => h) (factsOn_mono _) (by kernel_rfl) (by kernel_rfl) trivial ?_ ?_
  · refine ⟨?_, ?_, ?_, ?_, ?_, ?_, ?_, ?_, ?_, ?_, ?_, ?_, ?_, trivial⟩
    · refine stageOf_free rfl (fun _ _ _ _ _ _ => wanted_none rfl) ?_
      intro us vals w3 a' ha hle hW hd hv K hK
      have q4 : a'.tmps[4]? = some (.slice (some ⟨g, 0, none⟩) (0 + n + 2) cap) := slot_old ha (by kernel_rfl) (by kernel_rfl)
      exact step_value (w2 := w3) (by go_simp) (hK _ _ (Grow.refl _) rfl)
    · refine stageOf_free rfl (fun _ _ _ _ _ _ => wanted_none rfl) ?_
      intro us vals w3 a' ha hle hW hd hv K hK
      obtain ⟨d0, _⟩ := hd
      have q10 : a'.tmps[10]? = some (us 0) := slot_get ha 0 (by kernel_rfl) (by kernel_rfl)
      rw [show us 0 = .slice (some ⟨g, 0, none⟩) (0 + n + 2) cap from d0] at q10
      refine step_value (v := .pointer (some ⟨g, 0, none⟩)) (w2 := w3) ?_ (hK _ _ (Grow.refl _) rfl)
      go_simp
      omega
    · refine stageOf_free rfl (fun _ _ _ _ _ _ => wanted_none rfl) ?_
      intro us vals w3 a' ha hle hW hd hv K hK
      obtain ⟨d1, _⟩ := hd
      have q11 : a'.tmps[11]? = some (us 1) := slot_get ha 1 (by kernel_rfl) (by kernel_rfl)
      rw [show us 1 = .pointer (some ⟨g, 0, none⟩) from d1] at q11
      have hc := Hc0.out w3 hle
      refine step_value (v := .int .i64 x) (w2 := w3) ?_ (hK _ _ (Grow.refl _) rfl)
      go_simp
    · refine stageOf_free rfl (fun _ _ _ _ _ _ => wanted_none rfl) ?_
      intro us vals w3 a' ha hle hW hd hv K hK
      have q4 : a'.tmps[4]? = some (.slice (some ⟨g, 0, none⟩) (0 + n + 2) cap) := slot_old ha (by kernel_rfl) (by kernel_rfl)
      exact step_value (w2 := w3) (by go_simp) (hK _ _ (Grow.refl _) rfl)
    · refine stageOf_free rfl (fun _ _ _ _ _ _ => wanted_none rfl) ?_
      intro us vals w3 a' ha hle hW hd hv K hK
      obtain ⟨d3, _⟩ := hd
      have q13 : a'.tmps[13]? = some (us 3) := slot_get ha 3 (by kernel_rfl) (by kernel_rfl)
      rw [show us 3 = .slice (some ⟨g, 0, none⟩) (0 + n + 2) cap from d3] at q13
      refine step_value (v := .pointer (some ⟨g, 0 + 1, none⟩)) (w2 := w3) ?_ (hK _ _ (Grow.refl _) rfl)
      go_simp
      omega
    · refine stageOf_free rfl (fun _ _ _ _ _ _ => wanted_none rfl) ?_
      intro us vals w3 a' ha hle hW hd hv K hK
      obtain ⟨d4, _⟩ := hd
      have q14 : a'.tmps[14]? = some (us 4) := slot_get ha 4 (by kernel_rfl) (by kernel_rfl)
      rw [show us 4 = .pointer (some ⟨g, 0 + 1, none⟩) from d4] at q14
      have hc := Hc1.out w3 hle
      refine step_value (v := .int .i64 y) (w2 := w3) ?_ (hK _ _ (Grow.refl _) rfl)
      go_simp
    · refine stageOf_free rfl (fun _ _ _ _ _ _ => wanted_none rfl) ?_
      intro us vals w3 a' ha hle hW hd hv K hK
      have q4 : a'.tmps[4]? = some (.slice (some ⟨g, 0, none⟩) (0 + n + 2) cap) := slot_old ha (by kernel_rfl) (by kernel_rfl)
      exact step_value (w2 := w3) (by go_simp) (hK _ _ (Grow.refl _) rfl)
    · refine stageOf_free rfl (fun _ _ _ _ _ _ => wanted_none rfl) ?_
      intro us vals w3 a' ha hle hW hd hv K hK
      obtain ⟨d6, _⟩ := hd
      have q16 : a'.tmps[16]? = some (us 6) := slot_get ha 6 (by kernel_rfl) (by kernel_rfl)
      rw [show us 6 = .slice (some ⟨g, 0, none⟩) (0 + n + 2) cap from d6] at q16
      refine step_value (v := .pointer (some ⟨g, 0, none⟩)) (w2 := w3) ?_ (hK _ _ (Grow.refl _) rfl)
      go_simp
      omega
    · refine stageOf_free rfl (fun _ _ _ _ _ _ => wanted_none rfl) ?_
      intro us vals w3 a' ha hle hW hd hv K hK
      obtain ⟨d7, _⟩ := hd
      have q17 : a'.tmps[17]? = some (us 7) := slot_get ha 7 (by kernel_rfl) (by kernel_rfl)
      rw [show us 7 = .pointer (some ⟨g, 0, none⟩) from d7] at q17
      have hc := Hc0.out w3 hle
      refine step_value (v := .int .i64 x) (w2 := w3) ?_ (hK _ _ (Grow.refl _) rfl)
      go_simp
    · refine stageOf_free rfl (fun _ _ _ _ _ _ => wanted_none rfl) ?_
      intro us vals w3 a' ha hle hW hd hv K hK
      obtain ⟨d8, _⟩ := hd
      have q18 : a'.tmps[18]? = some (us 8) := slot_get ha 8 (by kernel_rfl) (by kernel_rfl)
      rw [show us 8 = .int .i64 x from d8] at q18
      refine step_value (v := .int .i64 (wrap64 (x + 300))) (w2 := w3) ?_ (hK _ _ (Grow.refl _) rfl)
      go_simp
      unfold wrap64
      exact IntKind.wrap_i64 _
    · refine stageOf_free rfl (fun _ _ _ _ _ _ => wanted_none rfl) ?_
      intro us vals w3 a' ha hle hW hd hv K hK
      obtain ⟨d5, d9, _⟩ := hd
      have q15 : a'.tmps[15]? = some (us 5) := slot_get ha 5 (by kernel_rfl) (by kernel_rfl)
      rw [show us 5 = .int .i64 y from d5] at q15
      have q19 : a'.tmps[19]? = some (us 9) := slot_get ha 9 (by kernel_rfl) (by kernel_rfl)
      rw [show us 9 = .int .i64 (wrap64 (x + 300)) from d9] at q19
      refine step_value (v := .int .i64 (min y (wrap64 (x + 300)))) (w2 := w3) ?_ (hK _ _ (Grow.refl _) rfl)
      go_simp
      split <;> omega
    · refine stageOf_free rfl (fun _ _ _ _ _ _ => wanted_none rfl) ?_
      intro us vals w3 a' ha hle hW hd hv K hK
      obtain ⟨d2, _, _, _, _⟩ := hd
      have q12 : a'.tmps[12]? = some (us 2) := slot_get ha 2 (by kernel_rfl) (by kernel_rfl)
      rw [show us 2 = .int .i64 x from d2] at q12
      exact step_value (w2 := w3) (by go_simp) (hK _ _ (Grow.refl _) rfl)
    · refine stageOf_free rfl (fun _ _ _ _ _ _ => wanted_none rfl) ?_
      intro us vals w3 a' ha hle hW hd hv K hK
      obtain ⟨d10, _, _, _, _, _, _, _, _, _, _, _, _, _, _⟩ := hd
      have q20 : a'.tmps[20]? = some (us 10) := slot_get ha 10 (by kernel_rfl) (by kernel_rfl)
      rw [show us 10 = .int .i64 (min y (wrap64 (x + 300))) from d10] at q20
      exact step_value (w2 := w3) (by go_simp) (hK _ _ (Grow.refl _) rfl)
  · intro us vals w3 hle hvl _ _ hf
    have e11 : us 11 = .int .i64 x := hf 11 (by decide) rfl
    have e12 : us 12 = .int .i64 (min y (wrap64 (x + 300))) := hf 12 (by decide) rfl
    have Hgr := Lib.hid hle
    clear hle hf
    simp only [fills, Act.put, List.setIfInBounds_toArray, List.set_cons_succ, List.set_cons_zero]
    go_wp2
    rw [e11, e12]
    go_ret2
    exact ⟨Hfin.out.1, Hfin.out.2.trans Hgr.out.toGrow⟩

theorem size_bound : ∀ (d : Nat) {w : World} {B n : Nat} {A : Option Addr} {l : List TreeM}, TreesAt d w B A n l → n ≤ 1759218604441 → sizeN d l ≤ (d + 1) * 1100000000000000
  | 0, w, B, n, A, l, h, hn => by
    have := h.len
    simp only [sizeN]
    omega
  | d + 1, w, B, n, A, l, h, hn => by
    have hto : ∀ (l : List TreeM) (S : Nat), S ≤ (d + 2) * 1100000000000000 → (∀ t ∈ l, t.row.length ≤ 17592186044415 ∧ t.skip.length ≤ 17592186044415 ∧ sizeN d t.kids ≤ (d + 1) * 1100000000000000) → l.foldl (fun n t => if n ≤ 600 then n + t.row.length + t.skip.length + sizeN d t.kids else n) S ≤ (d + 2) * 1100000000000000 := by
      intro l
      induction l with
      | nil => exact fun S h _ => h
      | cons t l ih =>
        intro S h hall
        obtain ⟨h1, h2, h3⟩ := hall t (by simp)
        rw [List.foldl_cons]
        refine ih _ ?_ fun u hu => hall u (by simp [hu])
        split
        · omega
        · exact h
    have hl := h.len
    refine hto l l.length (by omega) fun t ht => ?_
    obtain ⟨cs, A1, n1, c1, A2, n2, c2, A3, n3, c3, -, h1, h2, h3, h4, h5, h6, -⟩ := SliceBy.all h t ht
    exact ⟨by rw [h4.len]; exact h1, by rw [h5.len]; exact h2, size_bound d h6 h3⟩
/-- what size has told so far -/
def sizeTo (d : Nat) (l : List TreeM) (k : Nat) : Nat := (l.take k).foldl (fun n t => if n ≤ 600 then n + t.row.length + t.skip.length + sizeN d t.kids else n) l.length
theorem sizeTo_succ {d : Nat} {l : List TreeM} {k : Nat} {t : TreeM} (ht : l[k]? = some t) (h : sizeTo d l k ≤ 600) : sizeTo d l (k + 1) = sizeTo d l k + t.row.length + t.skip.length + sizeN d t.kids := by
  unfold sizeTo at h ⊢
  rw [List.take_add_one, ht, List.foldl_append]
  simp only [Option.toList_some, List.foldl_cons, List.foldl_nil]
  rw [if_pos h]
theorem sizeTo_stop {d : Nat} {l : List TreeM} {k : Nat} (h : 600 < sizeTo d l k) : sizeN (d + 1) l = sizeTo d l k := by
  show l.foldl _ l.length = _
  conv => lhs; rw [← List.take_append_drop k l, List.foldl_append]
  rw [List.take_append_drop]
  exact sizeTo_over _ _ h
theorem sizeTo_all {d : Nat} {l : List TreeM} {k : Nat} (h : l.length ≤ k) : sizeN (d + 1) l = sizeTo d l k := by
  unfold sizeTo
  rw [List.take_of_length_le h]
  rfl
def SizeTo (N : Nat) (w : World) (e : Ending) (w' : World) : Prop := e = .returned (.int .i64 (N : Int)) ∧ Grow w w'
set_option maxRecDepth 100000 in
set_option maxHeartbeats 2000000 in
theorem size_any : ∀ (d : Nat) (w : World) (B : Nat) (A : Option Addr) (n c : Nat) (l : List TreeM), d ≤ 6 → TreesAt d w B A n l → B ≤ w.heap.size → n ≤ 1759218604441 →
    Calls Try.prog 5 #[.slice A n c, .int .i64 (d : Int)] w (SizeTo (sizeN d l) w)
  | 0, w, B, A, n, c, l, hd, hT, hB, hn => by
    have hl := hT.len
    have e : sizeN 0 l = n * 600 := by simp only [sizeN]; rw [hl]
    rw [e]
    clear hl e
    go_enter Try.func5, Try.ntmps5
    go_wp2
    go_ret
    exact ⟨ret_int (by omega), Grow.refl _⟩
  | d + 1, w, B, A, n, c, l, hd, hT, hB, hn => by
    have Hlen := Lib.hid hT.len
    have HT := Lib.hid hT
    have hd0 : (((d + 1 : Nat) : Int) == 0) = false := by rw [beq_eq_false_iff_ne]; omega
    have hd1 : 0 < d + 1 := by omega
    obtain ⟨D, hD⟩ : ∃ D : Nat, D = d + 1 := ⟨_, rfl⟩
    have HD := Lib.hid hD
    rw [show ((d + 1 : Nat) : Int) = (D : Int) by rw [hD]]
    rw [← hD] at hd0
    clear hT hD
    go_enter Try.func5, Try.ntmps5
    go_wp2
    go_loopw [5, 6] (fun v5 v6 wr => ∃ k S : Nat, k ≤ n ∧ v5 = .int .i64 (S : Int) ∧ v6 = .int .i64 (k : Int) ∧ Hid (S = sizeTo d l k) ∧ S ≤ 8800000000000000 ∧ Hid (Grow w wr)) (fun _ v6 _ => n - (intOf v6).toNat)
    case atStart => exact ⟨0, n, by omega, rfl, rfl, by show n = _; rw [← Hlen.out]; rfl, by omega, Grow.refl _⟩
    case round =>
      obtain ⟨k, S, hk, rfl, rfl, hS, hSb, hg⟩ := hrel
      by_cases hlt : k < n
      · have d1 : decide ((k : Int) < (n : Int)) = true := decide_eq_true (by omega)
        by_cases hs : S ≤ 600
        · have d2 : decide ((S : Int) ≤ 600) = true := decide_eq_true (by omega)
          obtain ⟨t, ht⟩ : ∃ t, l[k]? = some t := ⟨_, List.getElem?_eq_getElem (by rw [Hlen.out]; exact hlt)⟩
          obtain ⟨b, off, A1, n1, c1, A2, n2, c2, A3, n3, c3, rfl, hb, -, q1, q2, q3, b1, b2, b3, i1, i2, i3, -⟩ := HT.out.at_ ht
          have hsz := size_bound d i3 b3
          obtain ⟨N, hN⟩ : ∃ N, N = sizeN d t.kids := ⟨_, rfl⟩
          rw [← hN] at hsz
          have HS2 := Lib.hid (show S + n1 + n2 + N = sizeTo d l (k + 1) by rw [sizeTo_succ ht (by rw [← hS.out]; exact hs), ← hS.out, ← i1.len, ← i2.len, hN])
          have hNb : N ≤ 7700000000000000 := by omega
          have Hcall := Lib.hid (show ∀ w3, Grow wr w3 → Calls Try.prog 5 #[.slice A3 n3 c3, .int .i64 (d : Int)] w3 (SizeTo N w3) from fun w3 hg3 => by
            rw [hN]
            exact size_any d w3 B A3 n3 c3 t.kids (by omega) (i3.below (Below.mono (hg.out.trans hg3) hB)) (Nat.le_trans hB (hg.out.trans hg3).size) b3)
          have hcell : ∀ i v, w.cell? ⟨b, off + k * 4 + i, none⟩ = some v → Hid (∀ w3, Keep (fun _ => False) wr w3 → w3.cell? ⟨b, off + k * 4 + i, none⟩ = some v) := fun i v hv w3 hle => ((hg.out.trans hle.toGrow).cell (p := ⟨b, off + k * 4 + i, none⟩) (by show b < w.heap.size; omega)).trans hv
          have Q1 := hcell 1 _ q1
          have Q2 := hcell 2 _ q2
          have Q3 := hcell 3 _ q3
          clear hcell q1 q2 q3 i1 i2 i3 hN ht
          go_upto_block 1 with (fail)
          go_cut [5] from 23 to 46 (fun v5 wx => ∃ W6 : World, W6 = wx ∧ v5 = .int .i64 ((S : Int) + n1 + n2 + N) ∧ Grow wr W6)
          case first Jx Kx hJx hMx =>
            go_upto_region 7 with (fail)
            refine wp_region_stages (by kernel_rfl) ?_
            refine anyOrder_pop rfl (by kernel_rfl) ?_
            refine anyOrder_start [] (Keep (fun _ => False)) (fun _ _ => True) (FactsOn [.is (.int .i64 (S : Int)), .is (.slice (some ⟨b, off, none⟩) n c), .is (.int .i64 (k : Int)), .is (.pointer (some ⟨b, off + k * 4, none⟩)), .is (.pointer (some ⟨b, off + k * 4 + 1, none⟩)), .is (.slice A1 n1 c1), .is (.int .i64 (n1 : Int)), .is (.int .i64 ((S : Int) + n1)), .is (.slice (some ⟨b, off, none⟩) n c), .is (.int .i64 (k : Int)), .is (.pointer (some ⟨b, off + k * 4, none⟩)), .is (.pointer (some ⟨b, off + k * 4 + 2, none⟩)), .is (.slice A2 n2 c2), .is (.int .i64 (n2 : Int)), .is (.int .i64 ((S : Int) + n1 + n2)), .is (.slice (some ⟨b, off, none⟩) n c), .is (.int .i64 (k : Int)), .is (.pointer (some ⟨b, off + k * 4, none⟩)), .is (.pointer (some ⟨b, off + k * 4 + 3, none⟩)), .is (.slice A3 n3 c3), .is (.int .i64 (D : Int)), .is (.int .i64 (d : Int)), .is (.int .i64 (N : Int)), .is (.int .i64 ((S : Int) + n1 + n2 + N))]) (fun i => 99) keep_trans keep_grow (fun _ _ _ _ h => h) (factsOn_mono _) (by kernel_rfl) (by kernel_rfl) trivial ?_ ?_
            · refine ⟨?_, ?_, ?_, ?_, ?_, ?_, ?_, ?_, ?_, ?_, ?_, ?_, ?_, ?_, ?_, ?_, ?_, ?_, ?_, ?_, ?_, ?_, ?_, ?_, trivial⟩
              · refine stageOf_free rfl (fun _ _ _ _ _ _ => wanted_none rfl) ?_
                intro us vals w3 a' ha hle hW hd hv K hK
                have q5 : a'.tmps[5]? = some (.int .i64 (S : Int)) := slot_old ha (by kernel_rfl) (by kernel_rfl)
                exact step_value (w2 := w3) (by go_simp) (hK _ _ (Grow.refl _) rfl)
              · refine stageOf_free rfl (fun _ _ _ _ _ _ => wanted_none rfl) ?_
                intro us vals w3 a' ha hle hW hd hv K hK
                have q0 : a'.tmps[0]? = some (.slice (some ⟨b, off, none⟩) n c) := slot_old ha (by kernel_rfl) (by kernel_rfl)
                exact step_value (w2 := w3) (by go_simp) (hK _ _ (Grow.refl _) rfl)
              · refine stageOf_free rfl (fun _ _ _ _ _ _ => wanted_none rfl) ?_
                intro us vals w3 a' ha hle hW hd hv K hK
                have q6 : a'.tmps[6]? = some (.int .i64 (k : Int)) := slot_old ha (by kernel_rfl) (by kernel_rfl)
                exact step_value (w2 := w3) (by go_simp) (hK _ _ (Grow.refl _) rfl)
              · refine stageOf_free rfl (fun _ _ _ _ _ _ => wanted_none rfl) ?_
                intro us vals w3 a' ha hle hW hd hv K hK
                obtain ⟨d1, d2, _⟩ := hd
                have q24 : a'.tmps[24]? = some (us 1) := slot_get ha 1 (by kernel_rfl) (by kernel_rfl)
                rw [show us 1 = .slice (some ⟨b, off, none⟩) n c from d1] at q24
                have q25 : a'.tmps[25]? = some (us 2) := slot_get ha 2 (by kernel_rfl) (by kernel_rfl)
                rw [show us 2 = .int .i64 (k : Int) from d2] at q25
                refine step_value (v := .pointer (some ⟨b, off + k * 4, none⟩)) (w2 := w3) ?_ (hK _ _ (Grow.refl _) rfl)
                go_simp
              · refine stageOf_free rfl (fun _ _ _ _ _ _ => wanted_none rfl) ?_
                intro us vals w3 a' ha hle hW hd hv K hK
                obtain ⟨d3, _⟩ := hd
                have q26 : a'.tmps[26]? = some (us 3) := slot_get ha 3 (by kernel_rfl) (by kernel_rfl)
                rw [show us 3 = .pointer (some ⟨b, off + k * 4, none⟩) from d3] at q26
                refine step_value (v := .pointer (some ⟨b, off + k * 4 + 1, none⟩)) (w2 := w3) ?_ (hK _ _ (Grow.refl _) rfl)
                go_simp
              · refine stageOf_free rfl (fun _ _ _ _ _ _ => wanted_none rfl) ?_
                intro us vals w3 a' ha hle hW hd hv K hK
                obtain ⟨d4, _⟩ := hd
                have q27 : a'.tmps[27]? = some (us 4) := slot_get ha 4 (by kernel_rfl) (by kernel_rfl)
                rw [show us 4 = .pointer (some ⟨b, off + k * 4 + 1, none⟩) from d4] at q27
                have hc := Q1.out w3 hle
                refine step_value (v := .slice A1 n1 c1) (w2 := w3) ?_ (hK _ _ (Grow.refl _) rfl)
                go_simp
              · refine stageOf_free rfl (fun _ _ _ _ _ _ => wanted_none rfl) ?_
                intro us vals w3 a' ha hle hW hd hv K hK
                obtain ⟨d5, _⟩ := hd
                have q28 : a'.tmps[28]? = some (us 5) := slot_get ha 5 (by kernel_rfl) (by kernel_rfl)
                rw [show us 5 = .slice A1 n1 c1 from d5] at q28
                refine step_value (v := .int .i64 (n1 : Int)) (w2 := w3) ?_ (hK _ _ (Grow.refl _) rfl)
                go_simp
              · refine stageOf_free rfl (fun _ _ _ _ _ _ => wanted_none rfl) ?_
                intro us vals w3 a' ha hle hW hd hv K hK
                obtain ⟨d0, d6, _⟩ := hd
                have q23 : a'.tmps[23]? = some (us 0) := slot_get ha 0 (by kernel_rfl) (by kernel_rfl)
                rw [show us 0 = .int .i64 (S : Int) from d0] at q23
                have q29 : a'.tmps[29]? = some (us 6) := slot_get ha 6 (by kernel_rfl) (by kernel_rfl)
                rw [show us 6 = .int .i64 (n1 : Int) from d6] at q29
                refine step_value (v := .int .i64 ((S : Int) + n1)) (w2 := w3) ?_ (hK _ _ (Grow.refl _) rfl)
                go_simp
                exact IntWalk.i64_in _ (by omega)
              · refine stageOf_free rfl (fun _ _ _ _ _ _ => wanted_none rfl) ?_
                intro us vals w3 a' ha hle hW hd hv K hK
                have q0 : a'.tmps[0]? = some (.slice (some ⟨b, off, none⟩) n c) := slot_old ha (by kernel_rfl) (by kernel_rfl)
                exact step_value (w2 := w3) (by go_simp) (hK _ _ (Grow.refl _) rfl)
              · refine stageOf_free rfl (fun _ _ _ _ _ _ => wanted_none rfl) ?_
                intro us vals w3 a' ha hle hW hd hv K hK
                have q6 : a'.tmps[6]? = some (.int .i64 (k : Int)) := slot_old ha (by kernel_rfl) (by kernel_rfl)
                exact step_value (w2 := w3) (by go_simp) (hK _ _ (Grow.refl _) rfl)
              · refine stageOf_free rfl (fun _ _ _ _ _ _ => wanted_none rfl) ?_
                intro us vals w3 a' ha hle hW hd hv K hK
                obtain ⟨d8, d9, _⟩ := hd
                have q31 : a'.tmps[31]? = some (us 8) := slot_get ha 8 (by kernel_rfl) (by kernel_rfl)
                rw [show us 8 = .slice (some ⟨b, off, none⟩) n c from d8] at q31
                have q32 : a'.tmps[32]? = some (us 9) := slot_get ha 9 (by kernel_rfl) (by kernel_rfl)
                rw [show us 9 = .int .i64 (k : Int) from d9] at q32
                refine step_value (v := .pointer (some ⟨b, off + k * 4, none⟩)) (w2 := w3) ?_ (hK _ _ (Grow.refl _) rfl)
                go_simp
              · refine stageOf_free rfl (fun _ _ _ _ _ _ => wanted_none rfl) ?_
                intro us vals w3 a' ha hle hW hd hv K hK
                obtain ⟨d10, _⟩ := hd
                have q33 : a'.tmps[33]? = some (us 10) := slot_get ha 10 (by kernel_rfl) (by kernel_rfl)
                rw [show us 10 = .pointer (some ⟨b, off + k * 4, none⟩) from d10] at q33
                refine step_value (v := .pointer (some ⟨b, off + k * 4 + 2, none⟩)) (w2 := w3) ?_ (hK _ _ (Grow.refl _) rfl)
                go_simp
              · refine stageOf_free rfl (fun _ _ _ _ _ _ => wanted_none rfl) ?_
                intro us vals w3 a' ha hle hW hd hv K hK
                obtain ⟨d11, _⟩ := hd
                have q34 : a'.tmps[34]? = some (us 11) := slot_get ha 11 (by kernel_rfl) (by kernel_rfl)
                rw [show us 11 = .pointer (some ⟨b, off + k * 4 + 2, none⟩) from d11] at q34
                have hc := Q2.out w3 hle
                refine step_value (v := .slice A2 n2 c2) (w2 := w3) ?_ (hK _ _ (Grow.refl _) rfl)
                go_simp
              · refine stageOf_free rfl (fun _ _ _ _ _ _ => wanted_none rfl) ?_
                intro us vals w3 a' ha hle hW hd hv K hK
                obtain ⟨d12, _⟩ := hd
                have q35 : a'.tmps[35]? = some (us 12) := slot_get ha 12 (by kernel_rfl) (by kernel_rfl)
                rw [show us 12 = .slice A2 n2 c2 from d12] at q35
                refine step_value (v := .int .i64 (n2 : Int)) (w2 := w3) ?_ (hK _ _ (Grow.refl _) rfl)
                go_simp
              · refine stageOf_free rfl (fun _ _ _ _ _ _ => wanted_none rfl) ?_
                intro us vals w3 a' ha hle hW hd hv K hK
                obtain ⟨d7, d13, _⟩ := hd
                have q30 : a'.tmps[30]? = some (us 7) := slot_get ha 7 (by kernel_rfl) (by kernel_rfl)
                rw [show us 7 = .int .i64 ((S : Int) + n1) from d7] at q30
                have q36 : a'.tmps[36]? = some (us 13) := slot_get ha 13 (by kernel_rfl) (by kernel_rfl)
                rw [show us 13 = .int .i64 (n2 : Int) from d13] at q36
                refine step_value (v := .int .i64 ((S : Int) + n1 + n2)) (w2 := w3) ?_ (hK _ _ (Grow.refl _) rfl)
                go_simp
                exact IntWalk.i64_in _ (by omega)
              · refine stageOf_free rfl (fun _ _ _ _ _ _ => wanted_none rfl) ?_
                intro us vals w3 a' ha hle hW hd hv K hK
                have q0 : a'.tmps[0]? = some (.slice (some ⟨b, off, none⟩) n c) := slot_old ha (by kernel_rfl) (by kernel_rfl)
                exact step_value (w2 := w3) (by go_simp) (hK _ _ (Grow.refl _) rfl)
              · refine stageOf_free rfl (fun _ _ _ _ _ _ => wanted_none rfl) ?_
                intro us vals w3 a' ha hle hW hd hv K hK
                have q6 : a'.tmps[6]? = some (.int .i64 (k : Int)) := slot_old ha (by kernel_rfl) (by kernel_rfl)
                exact step_value (w2 := w3) (by go_simp) (hK _ _ (Grow.refl _) rfl)
              · refine stageOf_free rfl (fun _ _ _ _ _ _ => wanted_none rfl) ?_
                intro us vals w3 a' ha hle hW hd hv K hK
                obtain ⟨d15, d16, _⟩ := hd
                have q38 : a'.tmps[38]? = some (us 15) := slot_get ha 15 (by kernel_rfl) (by kernel_rfl)
                rw [show us 15 = .slice (some ⟨b, off, none⟩) n c from d15] at q38
                have q39 : a'.tmps[39]? = some (us 16) := slot_get ha 16 (by kernel_rfl) (by kernel_rfl)
                rw [show us 16 = .int .i64 (k : Int) from d16] at q39
                refine step_value (v := .pointer (some ⟨b, off + k * 4, none⟩)) (w2 := w3) ?_ (hK _ _ (Grow.refl _) rfl)
                go_simp
              · refine stageOf_free rfl (fun _ _ _ _ _ _ => wanted_none rfl) ?_
                intro us vals w3 a' ha hle hW hd hv K hK
                obtain ⟨d17, _⟩ := hd
                have q40 : a'.tmps[40]? = some (us 17) := slot_get ha 17 (by kernel_rfl) (by kernel_rfl)
                rw [show us 17 = .pointer (some ⟨b, off + k * 4, none⟩) from d17] at q40
                refine step_value (v := .pointer (some ⟨b, off + k * 4 + 3, none⟩)) (w2 := w3) ?_ (hK _ _ (Grow.refl _) rfl)
                go_simp
              · refine stageOf_free rfl (fun _ _ _ _ _ _ => wanted_none rfl) ?_
                intro us vals w3 a' ha hle hW hd hv K hK
                obtain ⟨d18, _⟩ := hd
                have q41 : a'.tmps[41]? = some (us 18) := slot_get ha 18 (by kernel_rfl) (by kernel_rfl)
                rw [show us 18 = .pointer (some ⟨b, off + k * 4 + 3, none⟩) from d18] at q41
                have hc := Q3.out w3 hle
                refine step_value (v := .slice A3 n3 c3) (w2 := w3) ?_ (hK _ _ (Grow.refl _) rfl)
                go_simp
              · refine stageOf_free rfl (fun _ _ _ _ _ _ => wanted_none rfl) ?_
                intro us vals w3 a' ha hle hW hd hv K hK
                have q1 : a'.tmps[1]? = some (.int .i64 (D : Int)) := slot_old ha (by kernel_rfl) (by kernel_rfl)
                exact step_value (w2 := w3) (by go_simp) (hK _ _ (Grow.refl _) rfl)
              · refine stageOf_free rfl (fun _ _ _ _ _ _ => wanted_none rfl) ?_
                intro us vals w3 a' ha hle hW hd hv K hK
                obtain ⟨d20, _⟩ := hd
                have q43 : a'.tmps[43]? = some (us 20) := slot_get ha 20 (by kernel_rfl) (by kernel_rfl)
                rw [show us 20 = .int .i64 (D : Int) from d20] at q43
                refine step_value (v := .int .i64 (d : Int)) (w2 := w3) ?_ (hK _ _ (Grow.refl _) rfl)
                go_simp
                have hD9 := HD.out
                rw [IntWalk.i64_in _ (by omega)]
                omega
              · refine stageOf_free rfl (fun _ _ _ _ _ _ => wanted_none rfl) ?_
                intro us vals w3 a' ha hle hW hd hv K hK
                obtain ⟨d19, d21, _⟩ := hd
                have q42 : a'.tmps[42]? = some (us 19) := slot_get ha 19 (by kernel_rfl) (by kernel_rfl)
                rw [show us 19 = .slice A3 n3 c3 from d19] at q42
                have q44 : a'.tmps[44]? = some (us 21) := slot_get ha 21 (by kernel_rfl) (by kernel_rfl)
                rw [show us 21 = .int .i64 (d : Int) from d21] at q44
                refine step_call (f := 5) (args := #[.slice A3 n3 c3, .int .i64 (d : Int)]) (by go_simp) ?_
                refine (Hcall.out w3 hle.toGrow).mono ?_
                rintro e w4 ⟨rfl, hg4⟩
                exact ⟨_, rfl, hK _ _ hg4 rfl⟩
              · refine stageOf_free rfl (fun _ _ _ _ _ _ => wanted_none rfl) ?_
                intro us vals w3 a' ha hle hW hd hv K hK
                obtain ⟨d14, d22, _⟩ := hd
                have q37 : a'.tmps[37]? = some (us 14) := slot_get ha 14 (by kernel_rfl) (by kernel_rfl)
                rw [show us 14 = .int .i64 ((S : Int) + n1 + n2) from d14] at q37
                have q45 : a'.tmps[45]? = some (us 22) := slot_get ha 22 (by kernel_rfl) (by kernel_rfl)
                rw [show us 22 = .int .i64 (N : Int) from d22] at q45
                refine step_value (v := .int .i64 ((S : Int) + n1 + n2 + N)) (w2 := w3) ?_ (hK _ _ (Grow.refl _) rfl)
                go_simp
                exact IntWalk.i64_in _ (by omega)
            · intro us vals w3 hle hvl _ _ hf
              have h23 : us 23 = .int .i64 ((S : Int) + n1 + n2 + N) := hf 23 (by decide) rfl
              refine lastQ.assign (v := us 23) (s := 46) rfl (by kernel_rfl) ?_
              exact hMx _ _ (Met.intro (hJx _ _ ⟨us 23, us 0, us 1, us 2, us 3, us 4, us 5, us 6, us 7, us 8, us 9, us 10, us 11, us 12, us 13, us 14, us 15, us 16, us 17, us 18, us 19, us 20, us 21, us 22, us 23, ⟨_, rfl, h23, hle.toGrow⟩, by kernel_rfl⟩))
          case rest =>
            obtain ⟨W6, rfl, rfl, hG6⟩ := hcut
            have Hgr := Lib.hid (hg.out.trans hG6)
            clear Q1 Q2 Q3 Hcall hG6
            go_wp2
            go_roundw
            case rel => exact ⟨k + 1, S + n1 + n2 + N, by omega, by go_num, by go_num, HS2, by omega, Hgr⟩
            case measure => simp [intOf]; omega
        · have d2 : decide ((S : Int) ≤ 600) = false := decide_eq_false (by omega)
          have Hfin := Lib.hid (show sizeN (d + 1) l = S from by rw [hS.out]; exact sizeTo_stop (by rw [← hS.out]; omega))
          go_wp2
          go_ret
          exact ⟨ret_int (by rw [Hfin.out]), hg.out⟩
      · have d1 : decide ((k : Int) < (n : Int)) = false := decide_eq_false (by omega)
        have Hfin := Lib.hid (show sizeN (d + 1) l = S from by rw [hS.out]; exact sizeTo_all (by rw [Hlen.out]; omega))
        go_wp2
        go_ret
        exact ⟨ret_int (by rw [Hfin.out]), hg.out⟩
def StandsTo (d : Nat) (w : World) (v : Value) (L : List Int) (F : Nat → Prop) (e : Ending) (w' : World) : Prop := e = .returned (.bool true) ∧ CurTo d w v L F w'
set_option maxRecDepth 100000 in
set_option maxHeartbeats 2000000 in
theorem stands_any {d : Nat} (w : World) (v : Value) (L : List Int) (F own : Nat → Prop) (A : Option Addr) (n c : Nat) (h : Cur d w v L F) (hv : VecAt w own A n c (L.map i64v)) (ho : ∀ j, own j → ¬ F j) :
    Calls Try.prog 8 #[v, .slice A n c] w (StandsTo d w v L F) := by
  have hlen := hv.len
  rw [List.length_map] at hlen
  have Hc := Lib.hid ((curOk d).now w v L F h)
  cases L with
  | nil =>
    obtain rfl : n = 0 := by simpa using hlen.symm
    clear h hv hlen
    go_enter Try.func8, Try.ntmps8
    go_wp2_with fail
    refine Hc.out.mono ?_
    rintro e w1 ⟨rfl, hto⟩
    have Hto := Lib.hid hto
    clear hto Hc
    go_wp2
    go_ret
    exact ⟨rfl, Hto.out⟩
  | cons x t =>
    have hn : 0 < n := by rw [← hlen]; simp
    have hx : ((x :: t).map i64v)[0]? = some (.int .i64 x) := rfl
    obtain ⟨b, off, rfl, hown, hb, hc⟩ := hv.at_ hn
    have Hx := Lib.hid (show ∀ w1, Keep F w w1 → w1.cell? ⟨b, off, none⟩ = some (.int .i64 x) from fun w1 hk => by
      rw [hk.cell (p := ⟨b, off, none⟩) hb (ho b hown)]
      exact hc 0 _ hx)
    have d1 : decide ((0 : Int) < (n : Int)) = true := decide_eq_true (by omega)
    have d2 : (x == x) = true := by simp
    clear h hv hlen hx hown hb hc ho
    go_enter Try.func8, Try.ntmps8
    go_wp2_with fail
    refine Hc.out.mono ?_
    rintro e w1 ⟨rfl, hto⟩
    have hcx := Hx.out w1 (by obtain ⟨F', -, hk, -⟩ := hto; exact hk)
    have Hto := Lib.hid hto
    clear hto Hc
    go_wp2
    go_ret
    exact ⟨rfl, Hto.out⟩
end Go.Proofs.Ythjnggclemhgkaa
