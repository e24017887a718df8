/-
  The walks of the two Places: cursors of places' documents.
-/
import Derived.Deep.MidRow
import Derived.Test.YthjnggclemhgkaaCurRef
import Derived.Test.YthjnggclemhgkaaCurMake
namespace Go.Proofs.Ythjnggclemhgkaa
open Go.RowKit CurM
set_option linter.unusedVariables false

/-- a slice of places whose documents are l -/
def PlacesAt (w : World) (B : Nat) (A : Option Addr) (n : Nat) (l : List Int) : Prop :=
  l.length = n ∧ (0 < n → ∃ b off, A = some ⟨b, off, none⟩ ∧ b < B ∧ ∀ (j : Nat) (x : Int), l[j]? = some x → w.cell? ⟨b, off + j * 2, none⟩ = some (.int .i64 x) ∧ ∃ y : Int, w.cell? ⟨b, off + j * 2 + 1, none⟩ = some (.int .i64 y))
theorem PlacesAt.below {w w' : World} {B n : Nat} {A : Option Addr} {l : List Int} (h : PlacesAt w B A n l) (hb : Below B w w') : PlacesAt w' B A n l :=
  ⟨h.1, fun hn => by
    obtain ⟨b, off, e, h1, h2⟩ := h.2 hn
    exact ⟨b, off, e, h1, fun j x hx => ⟨(hb.cell (p := ⟨b, off + j * 2, none⟩) h1).trans (h2 j x hx).1, by
      obtain ⟨y, hy⟩ := (h2 j x hx).2
      exact ⟨y, (hb.cell (p := ⟨b, off + j * 2 + 1, none⟩) h1).trans hy⟩⟩⟩⟩
theorem PlacesAt.get {w : World} {B n : Nat} {A : Option Addr} {l : List Int} (h : PlacesAt w B A n l) {k : Nat} {x : Int} (hx : l[k]? = some x) : ∃ b off y, A = some ⟨b, off, none⟩ ∧ b < B ∧ w.cell? ⟨b, off + k * 2, none⟩ = some (.int .i64 x) ∧ w.cell? ⟨b, off + k * 2 + 1, none⟩ = some (.int .i64 y) := by
  have h1 := (List.getElem?_eq_some_iff.1 hx).1
  obtain ⟨b, off, e, h2, h3⟩ := h.2 (by have := h.1; omega)
  obtain ⟨y, hy⟩ := (h3 k x hx).2
  exact ⟨b, off, y, e, h2, (h3 k x hx).1, hy⟩
set_option maxRecDepth 100000 in
set_option maxHeartbeats 2000000 in
theorem refPlaces_any (w : World) (B : Nat) (A : Option Addr) (n c : Nat) (l : List Int) (h1 : PlacesAt w B A n l) (hB : B ≤ w.heap.size) (hn : n ≤ 17592186044415) : Calls Try.prog 21 #[.slice A n c] w (RefNew w (rowL l)) := by
  have intsTy : AppTy Try.prog 22 3 (.int .i64 0) 1 8 := AppTy.mk' Try.underlying22 (by kernel_rfl) rfl (by decide)
  have Hlen := Lib.hid h1.1
  have H1 := Lib.hid h1
  clear h1
  go_enter Try.func21, Try.ntmps21
  go_wp2
  go_loopw [3, 4] (fun v3 v4 wr => ∃ (k : Nat) (v : Value), k ≤ n ∧ v = v3 ∧ v4 = .int .i64 (k : Int) ∧ Hid (wr.ownsRow w.heap.size 3 1 v (l.take k).length ((l.take k).map i64v)) ∧ Hid (Below w.heap.size w wr)) (fun _ v4 _ => n - (intOf v4).toNat)
  case atStart => exact ⟨0, _, by omega, rfl, rfl, World.ownsRow_nil _ _ _ _, Below.refl _ _⟩
  case round =>
    obtain ⟨k, v, hk, rfl, rfl, ho, hg⟩ := hrel
    by_cases hlt : k < n
    · have d1 : decide ((k : Int) < (n : Int)) = true := decide_eq_true (by omega)
      obtain ⟨x, hx⟩ : ∃ x, l[k]? = some x := ⟨_, List.getElem?_eq_getElem (by rw [Hlen.out]; exact hlt)⟩
      obtain ⟨b, off, y, rfl, hbB, hc, -⟩ := (H1.out.below (Below.mono hg.out hB)).get hx
      have Hs2 := Lib.hid (show l.take (k + 1) = l.take k ++ [x] by rw [List.take_add_one, hx]; rfl)
      obtain ⟨R, hR⟩ : ∃ R, R = l.take k := ⟨_, rfl⟩
      have hRl : R.length ≤ k := by rw [hR]; exact List.length_take_le _ _
      rw [← hR] at ho Hs2
      obtain ⟨m, hm⟩ : ∃ m, m = R.length := ⟨_, rfl⟩
      rw [← hm] at ho hRl
      have Hm := Lib.hid hm
      clear hx hR hm
      have hown := own_below ho.out (Grow.alloc wr (.cells #[.int .i64 x] 3))
      have hgz := hg.out.size
      have G1 := Lib.hid (show m + 1 ≤ maxLen by unfold maxLen; omega)
      have G2 := Lib.hid (show (m + 1) * 8 ≤ 140737488355328 by omega)
      have G3 := Lib.hid (show w.heap.size ≤ (wr.alloc (.cells #[.int .i64 x] 3)).heap.size from Nat.le_trans hgz (Grow.alloc _ _).size)
      go_wp2_with (at_builtin; refine wpList_append_reads _ rfl (.tmp 11) (.tmp 17) rfl intsTy rfl hown rfl (ReadsAt.made1 wr 3 (.int .i64 x)) (by simp [Value.oneCell']) G1.out G2.out G3.out ?_; intro v' w2 hown2 hgr2 hat2)
      have hg2 : Below w.heap.size w w2 := Below.trans (Below.trans hg.out (Below.mono (Grow.alloc wr (.cells #[.int .i64 x] 3)) hgz)) ((Keep.grown hgr2).below (fun j hj => (hown.lt j hj).1) G3.out)
      have Ho2 := Lib.hid (show w2.ownsRow w.heap.size 3 1 v' (l.take (k + 1)).length ((l.take (k + 1)).map i64v) by
        rw [Hs2.out, List.length_append, ← Hm.out, List.map_append]
        exact hown2)
      have Hg2 := Lib.hid hg2
      clear hgr2 hat2 hown hown2 hg2 hgz
      go_roundw
      case rel => exact ⟨k + 1, _, by omega, rfl, by go_num, Ho2, Hg2⟩
      case measure => simp [intOf]; omega
    · have d1 : decide ((k : Int) < (n : Int)) = false := decide_eq_false (by omega)
      obtain rfl : k = n := by omega
      rw [List.take_of_length_le (show l.length ≤ k by rw [Hlen.out]; exact Nat.le_refl _)] at ho
      obtain ⟨A1, c1, rfl, h11, h12, h13⟩ := own_reads ho.out
      obtain ⟨z, hz⟩ : ∃ z, z = l.length := ⟨_, rfl⟩
      have hzk : z ≤ 17592186044415 := by rw [hz, Hlen.out]; exact hn
      rw [← hz] at h11 h13 ⊢
      have Hc := Lib.hid (refRow_any wr wr.heap.size A1 z c1 l h13 (Nat.le_refl _) (by omega))
      clear hz h13 ho
      go_wp2_with fail
      refine Hc.out.mono ?_
      rintro e w2 ⟨r, rfl, hr, hg2⟩
      have Hr := Lib.hid (own_base hr hg.out.size)
      have Hg2 := Lib.hid (Below.trans hg.out (Below.mono hg2 hg.out.size))
      clear hr hg2 Hc
      go_wp2
      go_ret
      exact ⟨_, rfl, Hr.out, Hg2.out⟩
end Go.Proofs.Ythjnggclemhgkaa
