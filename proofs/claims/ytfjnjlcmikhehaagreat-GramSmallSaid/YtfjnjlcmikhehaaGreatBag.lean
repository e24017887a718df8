/-
  mudlarkkit's bag: what it holds; the walks of its puts of lists that hold no lists. Printed by gen/bag.py.
-/
import Derived.Great.Walk
import Derived.Test.YtfjnjlcmikhehaaGreatBaseE
namespace Go.Proofs.YtfjnjlcmikhehaaGreat
open Go.RowKit

/-- the cells of a bag -/
abbrev bagF (f : Nat → Value) : Array Value := #[f 0, f 1, f 2, f 3, f 4, f 5, f 6, f 7, f 8, f 9, f 10, f 11, f 12, f 13, f 14, f 15, f 16, f 17, f 18, f 19, f 20]
/-- the types of the lists that its lists hold -/
def bagT (i : Nat) : TypeId := ([112, 114, 115, 116, 30, 22, 118, 119, 127, 132, 138, 143, 40, 28, 149, 154, 159, 166, 170, 175, 180] : List TypeId).getD i 0
theorem bagT_ne : ∀ i, i < 21 → bagT i ≠ 77 := by decide
theorem bagT_inj : ∀ i, i < 21 → ∀ j, j < 21 → bagT i = bagT j → i = j := by decide
def upd {α : Type} (f : Nat → α) (i : Nat) (v : α) : Nat → α := fun j => if j = i then v else f j
theorem upd_self {α : Type} (f : Nat → α) (i : Nat) (v : α) : upd f i v i = v := by simp [upd]
theorem upd_ne {α : Type} (f : Nat → α) {i j : Nat} (v : α) (h : j ≠ i) : upd f i v j = f j := by simp [upd, h]
theorem upd_same {α : Type} (f : Nat → α) (i : Nat) : upd f i (f i) = f := by
  funext j
  by_cases h : j = i
  · rw [h, upd_self]
  · rw [upd_ne _ _ h]
theorem upd_upd {α : Type} (f : Nat → α) (i : Nat) (u v : α) : upd (upd f i u) i v = upd f i v := by
  funext j
  by_cases h : j = i
  · rw [h, upd_self, upd_self]
  · rw [upd_ne _ _ h, upd_ne _ _ h, upd_ne _ _ h]

/-- a bag, and what its lists hold -/
structure BagAt (w : World) (g Bt : Nat) (tabs : Nat → Value) (xs : Nat → List Value) : Prop where
  blk : Blk w g 77 (bagF tabs)
  own : ∀ i, i < 21 → w.ownsRow Bt (bagT i) 1 (tabs i) (xs i).length (xs i)
  nil : ∀ i, i < 21 → xs i = [] → tabs i = .slice none 0 0
  ge : Bt ≤ g
section
variable {w w1 w2 : World} {g Bt : Nat} {tabs : Nat → Value} {xs : Nat → List Value}
theorem BagAt.grow (h : BagAt w g Bt tabs xs) (hg : Grow w w1) : BagAt w1 g Bt tabs xs :=
  ⟨hg.below |> fun hb => h.blk.below hb h.blk.lt, fun i hi => own_below (h.own i hi) hg, h.nil, h.ge⟩
theorem bagF_set (f : Nat → Value) (v : Value) : ∀ i, i < 21 → (bagF f).setIfInBounds i v = bagF (upd f i v) := by
  intro i hi
  have h : i = 0 ∨ i = 1 ∨ i = 2 ∨ i = 3 ∨ i = 4 ∨ i = 5 ∨ i = 6 ∨ i = 7 ∨ i = 8 ∨ i = 9 ∨ i = 10 ∨ i = 11 ∨ i = 12 ∨ i = 13 ∨ i = 14 ∨ i = 15 ∨ i = 16 ∨ i = 17 ∨ i = 18 ∨ i = 19 ∨ i = 20 := by omega
  rcases h with rfl | rfl | rfl | rfl | rfl | rfl | rfl | rfl | rfl | rfl | rfl | rfl | rfl | rfl | rfl | rfl | rfl | rfl | rfl | rfl | rfl <;> simp [bagF, upd]
theorem bagF_get (f : Nat → Value) : ∀ i, i < 21 → (bagF f)[i]? = some (f i) := by
  intro i hi
  have h : i = 0 ∨ i = 1 ∨ i = 2 ∨ i = 3 ∨ i = 4 ∨ i = 5 ∨ i = 6 ∨ i = 7 ∨ i = 8 ∨ i = 9 ∨ i = 10 ∨ i = 11 ∨ i = 12 ∨ i = 13 ∨ i = 14 ∨ i = 15 ∨ i = 16 ∨ i = 17 ∨ i = 18 ∨ i = 19 ∨ i = 20 := by omega
  rcases h with rfl | rfl | rfl | rfl | rfl | rfl | rfl | rfl | rfl | rfl | rfl | rfl | rfl | rfl | rfl | rfl | rfl | rfl | rfl | rfl | rfl <;> rfl
theorem BagAt.put (h : BagAt w g Bt tabs xs) {i : Nat} (hi : i < 21) {v' V : Value} (hk : Keep (fun k => (tabs i).ownBlock = some k) w w2) (hown : w2.ownsRow Bt (bagT i) 1 v' ((xs i).length + 1) (xs i ++ [V])) :
    BagAt (w2.setCell ⟨g, i, none⟩ v') g Bt (upd tabs i v') (upd xs i (xs i ++ [V])) := by
  have hne : ∀ j, j < 21 → (tabs j).ownBlock ≠ some g := fun j hj hb => bagT_ne j hj (own_type_blk (h.own j hj) hb h.blk)
  have hb2 : Blk w2 g 77 (bagF tabs) := hk.blk h.blk (hne i hi)
  have hv : v'.ownBlock ≠ some g := fun hb => bagT_ne i hi (own_type_blk hown hb hb2)
  have hs : Keep (fun k => k = g) w2 (w2.setCell ⟨g, i, none⟩ v') := Keep.setCell w2 ⟨g, i, none⟩ v'
  refine ⟨?_, fun j hj => ?_, fun j hj hn => ?_, h.ge⟩
  · have := hb2.set i v'
    rw [bagF_set _ _ i hi] at this
    exact this
  · by_cases hji : j = i
    · subst hji
      rw [upd_self, upd_self, List.length_append]
      exact hs.own hown fun k hk2 hkg => hv (by rw [hk2, hkg])
    · rw [upd_ne _ _ hji, upd_ne _ _ hji]
      refine hs.own (hk.own (h.own j hj) fun k h1 h2 => ?_) fun k hk2 hkg => hne j hj (by rw [hk2, hkg])
      exact hji (bagT_inj j hj i hi (own_types (h.own j hj) (h.own i hi) h1 h2))
  · by_cases hji : j = i
    · subst hji
      rw [upd_self] at hn
      simp at hn
    · rw [upd_ne _ _ hji] at hn ⊢
      exact h.nil j hj hn
theorem BagAt.cell (h : BagAt w g Bt tabs xs) {i : Nat} (hi : i < 21) : w.cell? ⟨g, i, none⟩ = some (tabs i) := by rw [h.blk.cell, bagF_get _ i hi]
theorem BagAt.low (h : BagAt w g Bt tabs xs) (i : Nat) (hi : i < 21) (hk : Keep (fun k => (tabs i).ownBlock = some k) w w2) (hB : Bt ≤ w.heap.size) : Below Bt w w2 := hk.below (fun k hb => ((h.own i hi).lt k hb).1) hB
theorem sep_rows {ys : List Value} {N : Nat → Nat} {B B2 e e2 s s2 n : Nat} {v : Value} {L : List Value} (hR : ∀ (j : Nat) (v : Value), ys[j]? = some v → ∃ L, w.ownsRow B e s v (N j) L) (h : w.ownsRow B2 e2 s2 v n L) (hne : e2 ≠ e) : ∀ b, v.ownBlock = some b → ¬ OwnS ys b := fun b hb ⟨j, v2, hv, hvb⟩ => by
  obtain ⟨L2, hL2⟩ := hR j v2 hv
  exact hne (own_types h hL2 hb hvb)
/-- a bag that was just made -/
theorem BagAt.new (w : World) : BagAt (w.alloc (.cells (bagF fun _ => .slice none 0 0) 77)) w.heap.size w.heap.size (fun _ => .slice none 0 0) (fun _ => []) :=
  ⟨Blk.new _ _ _, fun _ _ => World.ownsRow_nil _ _ _ _, fun _ _ _ => rfl, Nat.le_refl _⟩
end

set_option maxRecDepth 100000 in
set_option maxHeartbeats 2000000 in
theorem putTexts_bag (w : World) (g Bt : Nat) (tabs : Nat → Value) (xs : Nat → List Value) (A : Option Addr) (l c : Nat) (h : BagAt w g Bt tabs xs) (hn : (xs 4).length ≤ 1000000) (hB : Bt ≤ w.heap.size) :
    Calls Tryz.prog 26 #[.pointer (some ⟨g, 0, none⟩), .slice A l c] w fun e w' => e = .returned (.tuple #[]) ∧ (∃ tabs', BagAt w' g Bt tabs' (upd xs 4 (xs 4 ++ [.slice A l c]))) ∧ Below Bt w w' := by
  have rowsTy : AppTy Tryz.prog 39 30 (.slice none 0 0) 1 24 := AppTy.mk' Tryz.underlying39 (by kernel_rfl) rfl (by decide)
  have hg0 : Grow w (w.alloc (.cells #[.slice A l c] 30)) := Grow.alloc _ _
  have h1 := h.grow hg0
  have hc := h.cell (i := 4) (by decide)
  have hT1 : (w.alloc (.cells #[.slice A l c] 30)).ownsRow Bt 30 1 (tabs 4) (xs 4).length (xs 4) := h1.own 4 (by decide)
  have hbz : Bt ≤ (w.alloc (.cells #[.slice A l c] 30)).heap.size := by simp; omega
  obtain ⟨A5, c5, e5, -, -, -⟩ := own_reads hT1
  obtain ⟨n, hnn⟩ : ∃ n, n = (xs 4).length := ⟨_, rfl⟩
  rw [e5, ← hnn] at hT1
  rw [e5, ← hnn] at hc
  rw [← hnn] at e5 hn
  have E5 := Lib.hid e5
  have Hnn := Lib.hid hnn
  clear e5 hnn
  go_enter Tryz.func26, Tryz.ntmps26
  go_wp2_with (at_builtin; refine wpList_append_reads _ rfl (.tmp 8) (.tmp 10) rfl rowsTy rfl hT1 rfl (ReadsAt.made1 w 30 (.slice A l c)) (by simp [Value.oneCell']) (by simp only [maxLen]; omega) (by omega) hbz ?_; intro v' w2 hown2 hgr2 hat2; have hk2 : Keep (fun k => (tabs 4).ownBlock = some k) _ w2 := (by rw [E5.out]; exact Keep.grown hgr2); have hp := h1.put (i := 4) (by decide) hk2 (by rw [← Hnn.out]; exact hown2); have hb2 := hk2.blk h1.blk (fun hb => bagT_ne 4 (by decide) (own_type_blk (h1.own 4 (by decide)) hb h1.blk)); have hf2 := hb2.frozen 4; have hd2 := hb2.cell 4; have hl2 : Below Bt w w2 := Below.trans (Below.mono hg0 hB) (h1.low 4 (by decide) hk2 hbz); obtain ⟨A6, c6, rfl, -, -, -⟩ := own_reads hown2; have Hp := Lib.hid hp; have Hl2 := Lib.hid hl2; clear hown2 hgr2 hat2 hb2 hp hk2 hl2)
  (try simp only [Exit.inBlock, Exit.then])
  refine Go.Great.bodyPost_end0 rfl rfl ?_
  exact ⟨rfl, ⟨_, Hp.out⟩, Below.setCell Hl2.out (p := ⟨g, 4, none⟩) h.ge _⟩

set_option maxRecDepth 100000 in
set_option maxHeartbeats 2000000 in
theorem putPlaces_bag (w : World) (g Bt : Nat) (tabs : Nat → Value) (xs : Nat → List Value) (A : Option Addr) (l c : Nat) (h : BagAt w g Bt tabs xs) (hn : (xs 12).length ≤ 1000000) (hB : Bt ≤ w.heap.size) :
    Calls Tryz.prog 58 #[.pointer (some ⟨g, 0, none⟩), .slice A l c] w fun e w' => e = .returned (.tuple #[]) ∧ (∃ tabs', BagAt w' g Bt tabs' (upd xs 12 (xs 12 ++ [.slice A l c]))) ∧ Below Bt w w' := by
  have rowsTy : AppTy Tryz.prog 68 40 (.slice none 0 0) 1 24 := AppTy.mk' Tryz.underlying68 (by kernel_rfl) rfl (by decide)
  have hg0 : Grow w (w.alloc (.cells #[.slice A l c] 40)) := Grow.alloc _ _
  have h1 := h.grow hg0
  have hc := h.cell (i := 12) (by decide)
  have hT1 : (w.alloc (.cells #[.slice A l c] 40)).ownsRow Bt 40 1 (tabs 12) (xs 12).length (xs 12) := h1.own 12 (by decide)
  have hbz : Bt ≤ (w.alloc (.cells #[.slice A l c] 40)).heap.size := by simp; omega
  obtain ⟨A5, c5, e5, -, -, -⟩ := own_reads hT1
  obtain ⟨n, hnn⟩ : ∃ n, n = (xs 12).length := ⟨_, rfl⟩
  rw [e5, ← hnn] at hT1
  rw [e5, ← hnn] at hc
  rw [← hnn] at e5 hn
  have E5 := Lib.hid e5
  have Hnn := Lib.hid hnn
  clear e5 hnn
  go_enter Tryz.func58, Tryz.ntmps58
  go_wp2_with (at_builtin; refine wpList_append_reads _ rfl (.tmp 8) (.tmp 10) rfl rowsTy rfl hT1 rfl (ReadsAt.made1 w 40 (.slice A l c)) (by simp [Value.oneCell']) (by simp only [maxLen]; omega) (by omega) hbz ?_; intro v' w2 hown2 hgr2 hat2; have hk2 : Keep (fun k => (tabs 12).ownBlock = some k) _ w2 := (by rw [E5.out]; exact Keep.grown hgr2); have hp := h1.put (i := 12) (by decide) hk2 (by rw [← Hnn.out]; exact hown2); have hb2 := hk2.blk h1.blk (fun hb => bagT_ne 12 (by decide) (own_type_blk (h1.own 12 (by decide)) hb h1.blk)); have hf2 := hb2.frozen 12; have hd2 := hb2.cell 12; have hl2 : Below Bt w w2 := Below.trans (Below.mono hg0 hB) (h1.low 12 (by decide) hk2 hbz); obtain ⟨A6, c6, rfl, -, -, -⟩ := own_reads hown2; have Hp := Lib.hid hp; have Hl2 := Lib.hid hl2; clear hown2 hgr2 hat2 hb2 hp hk2 hl2)
  (try simp only [Exit.inBlock, Exit.then])
  refine Go.Great.bodyPost_end0 rfl rfl ?_
  exact ⟨rfl, ⟨_, Hp.out⟩, Below.setCell Hl2.out (p := ⟨g, 12, none⟩) h.ge _⟩
end Go.Proofs.YtfjnjlcmikhehaaGreat
