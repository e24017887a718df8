/-
  The walk of cursor's Places: a cursor of places' documents.
-/
import Derived.Deep.MidRow
import Derived.Test.YthjnggclemhgkaaCurPlaces
namespace Go.Proofs.Ythjnggclemhgkaa
open Go.RowKit CurM
set_option linter.unusedVariables false
theorem place_range {w : World} {b k : Nat} {x y : Int} (h0 : w.cell? ⟨b, k, none⟩ = some (.int .i64 x)) (h1 : w.cell? ⟨b, k + 1, none⟩ = some (.int .i64 y)) : w.rangeAt b k [.int .i64 x, .int .i64 y] := fun j u hj => by
  match j, hj with
  | 0, hj => cases hj; exact h0
  | 1, hj => cases hj; exact h1
set_option maxRecDepth 100000 in
set_option maxHeartbeats 2000000 in
theorem cPlaces_any (d : Nat) (w : World) (B : Nat) (A : Option Addr) (n c : Nat) (l : List Int) (h1 : PlacesAt w B A n l) (hB : B ≤ w.heap.size) (hn : n ≤ 17592186044415) (hw : ∀ x ∈ l, W64 x) : Calls Try.prog 20 #[.slice A n c] w (CurNew (d + 1) w (fun _ => False) (rowL l)) := by
  have intsTy : AppTy Try.prog 22 3 (.int .i64 0) 1 8 := AppTy.mk' Try.underlying22 (by kernel_rfl) rfl (by decide)
  have Hlen := Lib.hid h1.1
  have H1 := Lib.hid h1
  have Hw := Lib.hid hw
  clear h1 hw
  go_enter Try.func20, Try.ntmps20
  go_wp2
  go_loopw [3, 8] (fun v3 v8 wr => ∃ (k : Nat) (v : Value), k ≤ n ∧ v = v3 ∧ v8 = .int .i64 (k : Int) ∧ Hid (wr.ownsRow w.heap.size 3 1 v (l.take k).length ((l.take k).map i64v)) ∧ Hid (Below w.heap.size w wr)) (fun _ v8 _ => n - (intOf v8).toNat)
  case atStart => exact ⟨0, _, by omega, rfl, rfl, World.ownsRow_nil _ _ _ _, Below.refl _ _⟩
  case round =>
    obtain ⟨k, v, hk, rfl, rfl, ho, hg⟩ := hrel
    by_cases hlt : k < n
    · have d1 : decide ((k : Int) < (n : Int)) = true := decide_eq_true (by omega)
      obtain ⟨x, hx⟩ : ∃ x, l[k]? = some x := ⟨_, List.getElem?_eq_getElem (by rw [Hlen.out]; exact hlt)⟩
      obtain ⟨b, off, y, rfl, hbB, hc, hc'⟩ := (H1.out.below (Below.mono hg.out hB)).get hx
      have Hmr := Lib.hid (place_range hc hc')
      have Hs2 := Lib.hid (show l.take (k + 1) = l.take k ++ [x] by rw [List.take_add_one, hx]; rfl)
      obtain ⟨R, hR⟩ : ∃ R, R = l.take k := ⟨_, rfl⟩
      have hRl : R.length ≤ k := by rw [hR]; exact List.length_take_le _ _
      rw [← hR] at ho Hs2
      obtain ⟨m, hm⟩ : ∃ m, m = R.length := ⟨_, rfl⟩
      rw [← hm] at ho hRl
      have Hm := Lib.hid hm
      clear hx hR hm hc hc'
      have hown := own_below ho.out ((Grow.alloc wr (.cells #[.int .i64 x, .int .i64 y] 50)).trans (Grow.alloc _ (.cells #[.int .i64 x] 3)))
      have hgz := hg.out.size
      have G1 := Lib.hid (show m + 1 ≤ maxLen by unfold maxLen; omega)
      have G2 := Lib.hid (show (m + 1) * 8 ≤ 140737488355328 by omega)
      have G3 := Lib.hid (show w.heap.size ≤ ((wr.alloc (.cells #[.int .i64 x, .int .i64 y] 50)).alloc (.cells #[.int .i64 x] 3)).heap.size from Nat.le_trans hgz ((Grow.alloc _ _).trans (Grow.alloc _ _)).size)
      have R1 := Lib.hid (show ReadsAt ((wr.alloc (.cells #[.int .i64 x, .int .i64 y] 50)).alloc (.cells #[.int .i64 x] 3)) (wr.heap.size + 1 + 1) 1 (some ⟨wr.heap.size + 1, 0, none⟩) 1 [.int .i64 x] by
        have h := ReadsAt.made1 (wr.alloc (.cells #[.int .i64 x, .int .i64 y] 50)) 3 (.int .i64 x)
        rwa [World.size_alloc] at h)
      go_wp2_with (first | (refine wpList_load_mid rfl 50 (.tmp 10) rfl b (off + k * 2) rfl _ _ Hmr.out Try.underlying50 rfl (by kernel_rfl) ?_) | (at_builtin; refine wpList_append_reads _ rfl (.tmp 12) (.tmp 15) rfl intsTy rfl hown rfl R1.out (by simp [Value.oneCell']) G1.out G2.out G3.out ?_; intro v' w2 hown2 hgr2 hat2))
      have hg2 : Below w.heap.size w w2 := Below.trans (Below.trans hg.out (Below.mono ((Grow.alloc wr (.cells #[.int .i64 x, .int .i64 y] 50)).trans (Grow.alloc _ (.cells #[.int .i64 x] 3))) hgz)) ((Keep.grown hgr2).below (fun j hj => (hown.lt j hj).1) G3.out)
      have Ho2 := Lib.hid (show w2.ownsRow w.heap.size 3 1 v' (l.take (k + 1)).length ((l.take (k + 1)).map i64v) by
        rw [Hs2.out, List.length_append, ← Hm.out, List.map_append]
        exact hown2)
      have Hg2 := Lib.hid hg2
      clear hgr2 hat2 hown hown2 hg2 hgz
      go_roundw
      case rel => exact ⟨k + 1, _, by omega, rfl, by go_num, Ho2, Hg2⟩
      case measure => simp [intOf]; omega
    · have d1 : decide ((k : Int) < (n : Int)) = false := decide_eq_false (by omega)
      obtain rfl : k = n := by omega
      rw [List.take_of_length_le (show l.length ≤ k by rw [Hlen.out]; exact Nat.le_refl _)] at ho
      obtain ⟨A1, c1, rfl, h11, h12, h13⟩ := own_reads ho.out
      obtain ⟨z, hz⟩ : ∃ z, z = l.length := ⟨_, rfl⟩
      have hzk : z ≤ 17592186044415 := by rw [hz, Hlen.out]; exact hn
      rw [← hz] at h11 h13 ⊢
      have Hc := Lib.hid (cOf_any d wr wr.heap.size A1 z c1 l h13 (Nat.le_refl _) (by omega) Hw.out)
      clear hz h13 ho
      go_wp2_with fail
      refine Hc.out.mono ?_
      rintro e w2 ⟨v, F, rfl, h2, h3, h4⟩
      have Hfin := Lib.hid (show ∃ v' F, Ending.returned v = .returned v' ∧ Cur (d + 1) w2 v' (rowL l) F ∧ (∀ j, F j → False ∨ w.heap.size ≤ j) ∧ Grow w w2 from ⟨v, F, rfl, h2, fun j hj => by
        rcases h3 j hj with h | h
        · exact h.elim
        · exact Or.inr (Nat.le_trans hg.out.size h), Below.trans hg.out (Below.mono h4 hg.out.size)⟩)
      clear h2 h3 h4 Hc
      go_wp2
      go_ret
      exact Hfin.out
end Go.Proofs.Ythjnggclemhgkaa
