/-
  The walks of near's order of two places, and of a search among places that rise; the places of a row. (printed by gen/nearord.py)
-/
import Derived.Deep.MidRow
import Derived.Deep.CutBlock
import Derived.Deep.CutRange
import Derived.Deep.DeepCutAuto
import Derived.Test.YtamdejidkgnaeaaNearMap
import Derived.Test.YtamdejidkgnaeaaCurLeaf
import Derived.Test.YtamdejidkgnaeaaBaseD
namespace Go.Proofs.Ytamdejidkgnaeaa
open Go.RowKit NearM
set_option linter.unusedVariables false
/-- the slice .slice A n c reads as the places l -/
def PlsAt (w : World) (B : Nat) (A : Option Addr) (n : Nat) (l : List Pl) : Prop := l.length = n ∧ ReadsAt w B 2 A n (plCs l)
theorem plCs_at {l : List Pl} {k : Nat} {p : Pl} (h : l[k]? = some p) : (plCs l)[k * 2]? = some (.int .i64 (p.1 : Int)) ∧ (plCs l)[k * 2 + 1]? = some (.int .i64 (p.2 : Int)) := by
  induction l generalizing k with
  | nil => simp at h
  | cons q l ih =>
    cases k with
    | zero =>
      simp only [List.getElem?_cons_zero, Option.some.injEq] at h
      subst h
      exact ⟨rfl, rfl⟩
    | succ k =>
      obtain ⟨h1, h2⟩ := ih (k := k) (by simpa using h)
      have e : plCs (q :: l) = [.int .i64 (q.1 : Int), .int .i64 (q.2 : Int)] ++ plCs l := rfl
      rw [e, List.getElem?_append_right (by simp only [List.length_cons, List.length_nil]; omega), List.getElem?_append_right (by simp only [List.length_cons, List.length_nil]; omega)]
      exact ⟨by rw [← h1]; congr 1; simp; omega, by rw [← h2]; congr 1; simp; omega⟩
section
variable {w w' : World} {B n : Nat} {A : Option Addr} {l : List Pl}
theorem PlsAt.at_ (h : PlsAt w B A n l) {k : Nat} {p : Pl} (hk : l[k]? = some p) : ∃ b off, A = some ⟨b, off, none⟩ ∧ b < B ∧ w.cell? ⟨b, off + k * 2, none⟩ = some (.int .i64 (p.1 : Int)) ∧ w.cell? ⟨b, off + k * 2 + 1, none⟩ = some (.int .i64 (p.2 : Int)) := by
  have hlt := (List.getElem?_eq_some_iff.1 hk).1
  obtain ⟨b, off, e, hb, hc⟩ := h.2.2 (by have := h.1; omega)
  obtain ⟨h1, h2⟩ := plCs_at hk
  exact ⟨b, off, e, hb, hc _ _ h1, by rw [Nat.add_assoc]; exact hc _ _ h2⟩
theorem PlsAt.grow (h : PlsAt w B A n l) (hg : Grow w w') (hB : B ≤ w.heap.size) : PlsAt w' B A n l := ⟨h.1, h.2.below (Below.mono hg hB)⟩
theorem PlsAt.below (h : PlsAt w B A n l) (hb : Below B w w') : PlsAt w' B A n l := ⟨h.1, h.2.below hb⟩
theorem PlsAt.more (h : PlsAt w B A n l) {B' : Nat} (hB : B ≤ B') : PlsAt w B' A n l := ⟨h.1, h.2.more hB⟩
end
/-- which of two numbers is greater; which of two places stands behind -/
def cmpI (a b : Int) : Int := if a < b then -1 else if b < a then 1 else 0
def ordP (a b : Pl) : Int := if a.1 < b.1 then -1 else if b.1 < a.1 then 1 else if a.2 < b.2 then -1 else if b.2 < a.2 then 1 else 0
theorem ordP_lt {a b : Pl} : ordP a b < 0 ↔ Lt a b := by
  unfold ordP Lt
  repeat' split
  all_goals omega
theorem ordP_gt {a b : Pl} : 0 < ordP a b ↔ Lt b a := by
  unfold ordP Lt
  repeat' split
  all_goals omega
theorem ordP_eq {a b : Pl} : ordP a b = 0 ↔ a = b := by
  unfold ordP
  constructor
  · intro h
    refine Prod.ext ?_ ?_
    all_goals
      revert h
      repeat' split
      all_goals omega
  · rintro rfl
    simp
set_option maxRecDepth 100000 in
set_option maxHeartbeats 1000000 in
theorem cmpCompare_any (a b : Int) (w : World) : Calls Try.prog 42 #[.int .i64 a, .int .i64 b] w fun e w' => e = .returned (.int .i64 (cmpI a b)) ∧ w = w' := by
  unfold cmpI
  by_cases h1 : a < b
  · have d1 : decide (a < b) = true := decide_eq_true h1
    rw [if_pos h1]
    go_enter Try.func42, Try.ntmps42
    go_wp2_with (first | (go_at_call 58; refine (cmpNaN_any _ _).mono ?_; rintro e w' ⟨rfl, rfl⟩))
    go_ret
    exact ⟨rfl, rfl⟩
  · have d1 : decide (a < b) = false := decide_eq_false h1
    rw [if_neg h1]
    by_cases h2 : b < a
    · have d2 : decide (b < a) = true := decide_eq_true h2
      rw [if_pos h2]
      go_enter Try.func42, Try.ntmps42
      go_wp2_with (first | (go_at_call 58; refine (cmpNaN_any _ _).mono ?_; rintro e w' ⟨rfl, rfl⟩))
      go_ret
      exact ⟨rfl, rfl⟩
    · have d2 : decide (b < a) = false := decide_eq_false h2
      rw [if_neg h2]
      go_enter Try.func42, Try.ntmps42
      go_wp2_with (first | (go_at_call 58; refine (cmpNaN_any _ _).mono ?_; rintro e w' ⟨rfl, rfl⟩))
      go_ret
      exact ⟨rfl, rfl⟩
theorem place_range {w : World} {b k : Nat} {x y : Value} (h0 : w.cell? ⟨b, k, none⟩ = some x) (h1 : w.cell? ⟨b, k + 1, none⟩ = some y) : w.rangeAt b k [x, y] := fun j u hj => by
  match j, hj with
  | 0, hj => cases hj; exact h0
  | 1, hj => cases hj; exact h1
theorem PlsAt.range {w : World} {B n : Nat} {A : Option Addr} {l : List Pl} (h : PlsAt w B A n l) {k : Nat} {p : Pl} (hk : l[k]? = some p) : ∃ b off, A = some ⟨b, off, none⟩ ∧ b < B ∧ w.rangeAt b (off + k * 2) [.int .i64 (p.1 : Int), .int .i64 (p.2 : Int)] := by
  obtain ⟨b, off, e, hb, h1, h2⟩ := h.at_ hk
  exact ⟨b, off, e, hb, place_range h1 h2⟩
theorem Blk.range {w : World} {g t : Nat} {x y : Value} (h : Blk w g t #[x, y]) : w.rangeAt g 0 [x, y] := place_range (h.cell 0) (h.cell 1)
/-- a slice of two new numbers -/
def FactOn.sl2 (B0 : Nat) (x y : Int) : FactOn (Keep (fun _ => False)) :=
  ⟨fun u w => ∃ m : Nat, u = .slice (some ⟨m, 0, none⟩) 2 2 ∧ B0 ≤ m ∧ Blk w m 3 #[.int .i64 x, .int .i64 y], fun _ _ _ hk ⟨m, h1, h2, h3⟩ => ⟨m, h1, h2, hk.blk h3 (fun h => h)⟩⟩
def orI (x y : Int) : Int := if x = 0 then y else x
theorem ordP_or (a b : Pl) : orI (cmpI (a.1 : Int) (b.1 : Int)) (cmpI (a.2 : Int) (b.2 : Int)) = ordP a b := by
  unfold orI cmpI ordP
  repeat' split
  all_goals omega
set_option maxRecDepth 100000 in
set_option maxHeartbeats 1000000 in
theorem cmpOr_any (w : World) (m : Nat) (x y : Int) (h : Blk w m 3 #[.int .i64 x, .int .i64 y]) : Calls Try.prog 41 #[.slice (some ⟨m, 0, none⟩) 2 2] w fun e w' => e = .returned (.int .i64 (orI x y)) ∧ w' = w := by
  have hc0 := h.cell 0
  have hc1 := h.cell 1
  unfold orI
  by_cases hx : x = 0
  · subst hx
    rw [if_pos rfl]
    by_cases hy : y = 0
    · subst hy
      go_enter Try.func41, Try.ntmps41
      go_wp2
      go_loopw [5, 8] (fun v5 v8 wr => ∃ k : Nat, k ≤ 2 ∧ v8 = .int .i64 (k : Int) ∧ wr = w) (fun _ v8 _ => 2 - (intOf v8).toNat)
      case atStart => exact ⟨0, by omega, rfl, rfl⟩
      case round =>
        obtain ⟨k, hk, rfl, rfl⟩ := hrel
        rcases (show k = 0 ∨ k = 1 ∨ k = 2 by omega) with rfl | rfl | rfl
        · go_wp2
          go_roundw
          case rel => exact ⟨1, by omega, (by first | trivial | rfl), (by first | trivial | rfl)⟩
          case measure => simp [intOf]
        · go_wp2
          go_roundw
          case rel => exact ⟨2, by omega, (by first | trivial | rfl), (by first | trivial | rfl)⟩
          case measure => simp [intOf]
        · go_wp2
          go_ret
          exact ⟨by first | trivial | rfl, rfl⟩
    · have hyn : (y == 0) = false := by rw [beq_eq_false_iff_ne]; exact hy
      have hyb : (y != 0) = true := by rw [bne_iff_ne]; exact hy
      go_enter Try.func41, Try.ntmps41
      go_wp2
      go_loopw [5, 8] (fun v5 v8 wr => ∃ k : Nat, k ≤ 1 ∧ v8 = .int .i64 (k : Int) ∧ wr = w) (fun _ v8 _ => 2 - (intOf v8).toNat)
      case atStart => exact ⟨0, by omega, rfl, rfl⟩
      case round =>
        obtain ⟨k, hk, rfl, rfl⟩ := hrel
        rcases (show k = 0 ∨ k = 1 by omega) with rfl | rfl
        · go_wp2
          go_roundw
          case rel => exact ⟨1, by omega, (by first | trivial | rfl), (by first | trivial | rfl)⟩
          case measure => simp [intOf]
        · go_wp2
          go_ret
          exact ⟨by first | trivial | rfl, rfl⟩
  · rw [if_neg hx]
    have hxn : (x == 0) = false := by rw [beq_eq_false_iff_ne]; exact hx
    have hxb : (x != 0) = true := by rw [bne_iff_ne]; exact hx
    go_enter Try.func41, Try.ntmps41
    go_wp2
    go_loopw [5, 8] (fun v5 v8 wr => v8 = .int .i64 0 ∧ wr = w) (fun _ v8 _ => 0)
    case atStart => exact ⟨rfl, rfl⟩
    case round =>
      obtain ⟨rfl, rfl⟩ := hrel
      go_wp2
      go_ret
      exact ⟨by first | trivial | rfl, rfl⟩
set_option maxRecDepth 100000 in
set_option maxHeartbeats 1000000 in
theorem norder_any (w : World) (a b : Pl) : Calls Try.prog 27 #[.agg #[.int .i64 (a.1 : Int), .int .i64 (a.2 : Int)], .agg #[.int .i64 (b.1 : Int), .int .i64 (b.2 : Int)]] w fun e w' => e = .returned (.int .i64 (ordP a b)) ∧ Grow w w' := by
  obtain ⟨w1, hw1⟩ : ∃ w1, (w.alloc (.cells #[.int .i64 (a.1 : Int), .int .i64 (a.2 : Int)] 33)).alloc (.cells #[.int .i64 (b.1 : Int), .int .i64 (b.2 : Int)] 33) = w1 := ⟨_, rfl⟩
  have hg1 : Grow w w1 := by rw [← hw1]; exact (Grow.alloc _ _).trans (Grow.alloc _ _)
  have hba : Blk w1 w.heap.size 33 #[.int .i64 (a.1 : Int), .int .i64 (a.2 : Int)] := by rw [← hw1]; exact (Blk.new _ _ _).alloc _
  have hbb : Blk w1 (w.heap.size + 1) 33 #[.int .i64 (b.1 : Int), .int .i64 (b.2 : Int)] := by
    rw [← hw1]
    have h := Blk.new (w.alloc (.cells #[.int .i64 (a.1 : Int), .int .i64 (a.2 : Int)] 33)) 33 #[.int .i64 (b.1 : Int), .int .i64 (b.2 : Int)]
    rwa [World.size_alloc] at h
  have Ha := Lib.hid (show ∀ W, Grow w1 W → Blk W w.heap.size 33 #[.int .i64 (a.1 : Int), .int .i64 (a.2 : Int)] from fun W h => hba.below h hba.lt)
  have Hb := Lib.hid (show ∀ W, Grow w1 W → Blk W (w.heap.size + 1) 33 #[.int .i64 (b.1 : Int), .int .i64 (b.2 : Int)] from fun W h => hbb.below h hbb.lt)
  have Hg1 := Lib.hid hg1
  clear hba hbb hg1
  go_enter Try.func27, Try.ntmps27
  go_upto_region 1 with (fail)
  (try rw [hw1])
  clear hw1
  go_cut [4] from 5 to 16 (fun v4 wx => ∃ W : World, W = wx ∧ v4 = .int .i64 (ordP a b) ∧ Grow w1 W)
  case first Jx Kx hJx hMx =>
    refine wp_region_stages (by kernel_rfl) ?_
    refine anyOrder_start [] (Keep (fun _ => False)) ((fun _ W => Grow w1 W)) (FactsOn [.is (.pointer (some ⟨w.heap.size, 0, none⟩)), .is (.int .i64 (a.1 : Int)), .is (.pointer (some ⟨w.heap.size + 1, 0, none⟩)), .is (.int .i64 (b.1 : Int)), .is (.int .i64 (cmpI (a.1 : Int) (b.1 : Int))), .is (.pointer (some ⟨w.heap.size, 1, none⟩)), .is (.int .i64 (a.2 : Int)), .is (.pointer (some ⟨w.heap.size + 1, 1, none⟩)), .is (.int .i64 (b.2 : Int)), .is (.int .i64 (cmpI (a.2 : Int) (b.2 : Int))), .sl2 w1.heap.size (cmpI (a.1 : Int) (b.1 : Int)) (cmpI (a.2 : Int) (b.2 : Int)), .is (.int .i64 (ordP a b)), .is (.int .i64 (ordP a b))]) (fun i => 99) keep_trans keep_grow (fun _ _ _ hg h => Grow.trans h hg) (factsOn_mono _) (by kernel_rfl) (by kernel_rfl) (Grow.refl _) ?_ ?_
    · refine ⟨?_, ?_, ?_, ?_, ?_, ?_, ?_, ?_, ?_, ?_, ?_, ?_, ?_, trivial⟩
      · refine stageOf_free rfl (fun _ _ _ _ _ _ => wanted_none rfl) ?_
        intro us vals w3 a' ha hle hW hd hv K hK
        have q2 : a'.tmps[2]? = some (.pointer (some ⟨w.heap.size, 0, none⟩)) := slot_old ha (by kernel_rfl) (by kernel_rfl)
        refine step_value (v := .pointer (some ⟨w.heap.size, 0, none⟩)) (w2 := w3) ?_ (hK _ _ (Grow.refl _) rfl)
        go_simp
      · refine stageOf_free rfl (fun _ _ _ _ _ _ => wanted_none rfl) ?_
        intro us vals w3 a' ha hle hW hd hv K hK
        obtain ⟨d0, _⟩ := hd
        have q5 : a'.tmps[5]? = some (us 0) := slot_get ha 0 (by kernel_rfl) (by kernel_rfl)
        rw [show us 0 = .pointer (some ⟨w.heap.size, 0, none⟩) from d0] at q5
        have hc := (Ha.out w3 hW).cell 0
        refine step_value (v := .int .i64 (a.1 : Int)) (w2 := w3) ?_ (hK _ _ (Grow.refl _) rfl)
        go_simp
      · refine stageOf_free rfl (fun _ _ _ _ _ _ => wanted_none rfl) ?_
        intro us vals w3 a' ha hle hW hd hv K hK
        have q3 : a'.tmps[3]? = some (.pointer (some ⟨w.heap.size + 1, 0, none⟩)) := slot_old ha (by kernel_rfl) (by kernel_rfl)
        refine step_value (v := .pointer (some ⟨w.heap.size + 1, 0, none⟩)) (w2 := w3) ?_ (hK _ _ (Grow.refl _) rfl)
        go_simp
      · refine stageOf_free rfl (fun _ _ _ _ _ _ => wanted_none rfl) ?_
        intro us vals w3 a' ha hle hW hd hv K hK
        obtain ⟨d2, _⟩ := hd
        have q7 : a'.tmps[7]? = some (us 2) := slot_get ha 2 (by kernel_rfl) (by kernel_rfl)
        rw [show us 2 = .pointer (some ⟨w.heap.size + 1, 0, none⟩) from d2] at q7
        have hc := (Hb.out w3 hW).cell 0
        refine step_value (v := .int .i64 (b.1 : Int)) (w2 := w3) ?_ (hK _ _ (Grow.refl _) rfl)
        go_simp
      · refine stageOf_free rfl (fun _ _ _ _ _ _ => wanted_none rfl) ?_
        intro us vals w3 a' ha hle hW hd hv K hK
        obtain ⟨d1, d3, _⟩ := hd
        have q6 : a'.tmps[6]? = some (us 1) := slot_get ha 1 (by kernel_rfl) (by kernel_rfl)
        rw [show us 1 = .int .i64 (a.1 : Int) from d1] at q6
        have q8 : a'.tmps[8]? = some (us 3) := slot_get ha 3 (by kernel_rfl) (by kernel_rfl)
        rw [show us 3 = .int .i64 (b.1 : Int) from d3] at q8
        refine step_call (f := 42) (args := #[.int .i64 (a.1 : Int), .int .i64 (b.1 : Int)]) (by go_simp) ?_
        refine (cmpCompare_any _ _ w3).mono ?_
        rintro e w4 ⟨rfl, rfl⟩
        exact ⟨_, rfl, hK _ _ (Grow.refl _) rfl⟩
      · refine stageOf_free rfl (fun _ _ _ _ _ _ => wanted_none rfl) ?_
        intro us vals w3 a' ha hle hW hd hv K hK
        have q2 : a'.tmps[2]? = some (.pointer (some ⟨w.heap.size, 0, none⟩)) := slot_old ha (by kernel_rfl) (by kernel_rfl)
        refine step_value (v := .pointer (some ⟨w.heap.size, 1, none⟩)) (w2 := w3) ?_ (hK _ _ (Grow.refl _) rfl)
        go_simp
      · refine stageOf_free rfl (fun _ _ _ _ _ _ => wanted_none rfl) ?_
        intro us vals w3 a' ha hle hW hd hv K hK
        obtain ⟨d5, _⟩ := hd
        have q10 : a'.tmps[10]? = some (us 5) := slot_get ha 5 (by kernel_rfl) (by kernel_rfl)
        rw [show us 5 = .pointer (some ⟨w.heap.size, 1, none⟩) from d5] at q10
        have hc := (Ha.out w3 hW).cell 1
        refine step_value (v := .int .i64 (a.2 : Int)) (w2 := w3) ?_ (hK _ _ (Grow.refl _) rfl)
        go_simp
      · refine stageOf_free rfl (fun _ _ _ _ _ _ => wanted_none rfl) ?_
        intro us vals w3 a' ha hle hW hd hv K hK
        have q3 : a'.tmps[3]? = some (.pointer (some ⟨w.heap.size + 1, 0, none⟩)) := slot_old ha (by kernel_rfl) (by kernel_rfl)
        refine step_value (v := .pointer (some ⟨w.heap.size + 1, 1, none⟩)) (w2 := w3) ?_ (hK _ _ (Grow.refl _) rfl)
        go_simp
      · refine stageOf_free rfl (fun _ _ _ _ _ _ => wanted_none rfl) ?_
        intro us vals w3 a' ha hle hW hd hv K hK
        obtain ⟨d7, _⟩ := hd
        have q12 : a'.tmps[12]? = some (us 7) := slot_get ha 7 (by kernel_rfl) (by kernel_rfl)
        rw [show us 7 = .pointer (some ⟨w.heap.size + 1, 1, none⟩) from d7] at q12
        have hc := (Hb.out w3 hW).cell 1
        refine step_value (v := .int .i64 (b.2 : Int)) (w2 := w3) ?_ (hK _ _ (Grow.refl _) rfl)
        go_simp
      · refine stageOf_free rfl (fun _ _ _ _ _ _ => wanted_none rfl) ?_
        intro us vals w3 a' ha hle hW hd hv K hK
        obtain ⟨d6, d8, _, _⟩ := hd
        have q11 : a'.tmps[11]? = some (us 6) := slot_get ha 6 (by kernel_rfl) (by kernel_rfl)
        rw [show us 6 = .int .i64 (a.2 : Int) from d6] at q11
        have q13 : a'.tmps[13]? = some (us 8) := slot_get ha 8 (by kernel_rfl) (by kernel_rfl)
        rw [show us 8 = .int .i64 (b.2 : Int) from d8] at q13
        refine step_call (f := 42) (args := #[.int .i64 (a.2 : Int), .int .i64 (b.2 : Int)]) (by go_simp) ?_
        refine (cmpCompare_any _ _ w3).mono ?_
        rintro e w4 ⟨rfl, rfl⟩
        exact ⟨_, rfl, hK _ _ (Grow.refl _) rfl⟩
      · refine stageOf_free rfl (fun _ _ _ _ _ _ => wanted_none rfl) ?_
        intro us vals w3 a' ha hle hW hd hv K hK
        obtain ⟨d4, d9, _⟩ := hd
        have q9 : a'.tmps[9]? = some (us 4) := slot_get ha 4 (by kernel_rfl) (by kernel_rfl)
        rw [show us 4 = .int .i64 (cmpI (a.1 : Int) (b.1 : Int)) from d4] at q9
        have q14 : a'.tmps[14]? = some (us 9) := slot_get ha 9 (by kernel_rfl) (by kernel_rfl)
        rw [show us 9 = .int .i64 (cmpI (a.2 : Int) (b.2 : Int)) from d9] at q14
        refine step_value (v := .slice (some ⟨w3.heap.size, 0, none⟩) 2 2) (w2 := w3.alloc (.cells #[.int .i64 (cmpI (a.1 : Int) (b.1 : Int)), .int .i64 (cmpI (a.2 : Int) (b.2 : Int))] 3)) (by go_simp) (hK _ _ (Grow.alloc _ _) ?_)
        exact ⟨_, rfl, (show Grow w1 w3 from hW).size, Blk.new _ _ _⟩
      · refine stageOf_free rfl (fun _ _ _ _ _ _ => wanted_none rfl) ?_
        intro us vals w3 a' ha hle hW hd hv K hK
        obtain ⟨⟨m10, u10, z10, b10⟩, _, _⟩ := hd
        have q15 : a'.tmps[15]? = some (us 10) := slot_get ha 10 (by kernel_rfl) (by kernel_rfl)
        rw [u10] at q15
        refine step_call (f := 41) (args := #[.slice (some ⟨m10, 0, none⟩) 2 2]) (by go_simp) ?_
        refine (cmpOr_any w3 m10 _ _ b10).mono ?_
        rintro e w4 ⟨rfl, rfl⟩
        rw [ordP_or]
        exact ⟨_, rfl, hK _ _ (Grow.refl _) rfl⟩
      · refine stageOf_free rfl (fun _ _ _ _ _ _ => wanted_none rfl) ?_
        intro us vals w3 a' ha hle hW hd hv K hK
        obtain ⟨d11, _, _, _, _, _, _, _, _, _, _, _, _, _, _⟩ := hd
        have q16 : a'.tmps[16]? = some (us 11) := slot_get ha 11 (by kernel_rfl) (by kernel_rfl)
        rw [show us 11 = .int .i64 (ordP a b) from d11] at q16
        refine step_value (v := .int .i64 (ordP a b)) (w2 := w3) ?_ (hK _ _ (Grow.refl _) rfl)
        go_simp
    · intro us vals w5 hle hvl hW ht hf
      exact hMx _ _ (Met.intro (hJx _ _ ⟨us 12, us 0, us 1, us 2, us 3, us 4, us 5, us 6, us 7, us 8, us 9, us 10, us 11, ⟨_, rfl, hf 12 (by decide) rfl, hW⟩, by kernel_rfl⟩))
  case rest =>
  obtain ⟨w5, rfl, rfl, hg5⟩ := hcut
  go_wp2_with fail
  go_ret
  exact ⟨rfl, Hg1.out.trans hg5⟩
end Go.Proofs.Ytamdejidkgnaeaa
