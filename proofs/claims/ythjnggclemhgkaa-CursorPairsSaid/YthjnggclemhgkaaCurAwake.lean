/-
  The walk of mudlarklaw20's awake: the chapter's example.
-/
import Derived.Test.YthjnggclemhgkaaCurTake
import Derived.Test.YthjnggclemhgkaaCurMake
namespace Go.Proofs.Ythjnggclemhgkaa
open Go.RowKit CurM
set_option linter.unusedVariables false

/-- a row that was just written out -/
theorem IntsAt.lit (w : World) (t : Nat) (l : List Int) : IntsAt (w.alloc (.cells (l.map i64v).toArray t)) (w.heap.size + 1) (some ⟨w.heap.size, 0, none⟩) l.length l := IntsAt.of_row (Blk.new w t _).cells (Nat.lt_succ_self _)
def AwakeTo (w : World) (e : Ending) (w' : World) : Prop := e = .returned (.bool true) ∧ Grow w w'
set_option maxRecDepth 100000 in
set_option maxHeartbeats 4000000 in
theorem awake20_any (w : World) : Calls Try.prog 6 #[] w (AwakeTo w) := by
  have Hof := Lib.hid (show ∀ (W : World) (l : List Int), l.length = 4 → (∀ x ∈ l, W64 x) → Calls Try.prog 12 #[.slice (some ⟨W.heap.size, 0, none⟩) 4 4] (W.alloc (.cells (l.map i64v).toArray 3)) (CurNew 1 W (fun _ => False) (rowL l)) from fun W l h4 hw => by
    have h := cOf_any 0 (W.alloc (.cells (l.map i64v).toArray 3)) (W.heap.size + 1) (some ⟨W.heap.size, 0, none⟩) 4 4 l (by have := IntsAt.lit W 3 l; rw [h4] at this; exact this) (by simp) (by omega) hw
    exact h.mono fun e w' ⟨v, F, h1, h2, h3, h4⟩ => ⟨v, F, h1, h2, fun j hj => by
      rcases h3 j hj with h | h
      · exact Or.inl h
      · simp at h
        exact Or.inr (by omega), (Grow.alloc _ _).trans h4⟩)
  go_enter Try.func6, Try.ntmps6
  go_wp2_with fail
  refine (Hof.out w [1, 3, 5, 7] rfl (by simp [W64])).mono ?_
  rintro e w1 ⟨a, Fa, rfl, ha, fa, ga⟩
  obtain ⟨pa, rfl⟩ := ha.isPtr
  have Ha := Lib.hid (show Cur 1 w1 (.pointer pa) [1, 3, 5, 7] Fa from ha)
  have Hfa := Lib.hid (show ∀ j, Fa j → w.heap.size ≤ j ∧ j < w1.heap.size from fun j hj => ⟨(fa j hj).resolve_left fun h => h.elim, ha.lt j hj⟩)
  have Hga := Lib.hid ga
  have hza := ga.size
  clear ha fa ga
  go_wp2_with fail
  refine (Hof.out w1 [3, 4, 7, 9] rfl (by simp [W64])).mono ?_
  rintro e w2 ⟨b, Fb, rfl, hb, fb, gb⟩
  obtain ⟨pb, rfl⟩ := hb.isPtr
  have Hb := Lib.hid (show Cur 1 w2 (.pointer pb) [3, 4, 7, 9] Fb from hb)
  have Hfb := Lib.hid (show ∀ j, Fb j → w1.heap.size ≤ j ∧ j < w2.heap.size from fun j hj => ⟨(fb j hj).resolve_left fun h => h.elim, hb.lt j hj⟩)
  have Hgb := Lib.hid gb
  have hzb := gb.size
  clear hb fb gb
  go_wp2_with fail
  refine (Hof.out w2 [1, 3, 5, 7] rfl (by simp [W64])).mono ?_
  rintro e w3 ⟨c, Fc, rfl, hc, fc, gc⟩
  obtain ⟨pc, rfl⟩ := hc.isPtr
  have Hc := Lib.hid (show Cur 1 w3 (.pointer pc) [1, 3, 5, 7] Fc from hc)
  have Hfc := Lib.hid (show ∀ j, Fc j → w2.heap.size ≤ j ∧ j < w3.heap.size from fun j hj => ⟨(fc j hj).resolve_left fun h => h.elim, hc.lt j hj⟩)
  have Hgc := Lib.hid gc
  have hzc := gc.size
  clear hc fc gc
  go_wp2_with fail
  refine (Hof.out w3 [3, 4, 7, 9] rfl (by simp [W64])).mono ?_
  rintro e w4 ⟨d, Fd, rfl, hd, fd, gd⟩
  obtain ⟨pd, rfl⟩ := hd.isPtr
  have Hd := Lib.hid (show Cur 1 w4 (.pointer pd) [3, 4, 7, 9] Fd from hd)
  have Hfd := Lib.hid (show ∀ j, Fd j → w3.heap.size ≤ j ∧ j < w4.heap.size from fun j hj => ⟨(fd j hj).resolve_left fun h => h.elim, hd.lt j hj⟩)
  have Hgd := Lib.hid gd
  have hzd := gd.size
  clear hd fd gd
  obtain ⟨W5, hW5⟩ : ∃ W5, w4.alloc (.cells #[.pointer pa, .pointer pb] 29) = W5 := ⟨_, rfl⟩
  have hg5 : Grow w4 W5 := by rw [← hW5]; exact Grow.alloc _ _
  have hm5 : ReadsAt W5 W5.heap.size 1 (some ⟨w4.heap.size, 0, none⟩) 2 [.pointer pa, .pointer pb] := by rw [← hW5]; exact ReadsAt.more (ReadsAt.made w4 29 [.pointer pa, .pointer pb]) (by simp)
  have ha5 : Cur 1 W5 (.pointer pa) [1, 3, 5, 7] Fa := Ha.out.grow (Hgb.out.trans (Hgc.out.trans (Hgd.out.trans hg5)))
  have hb5 : Cur 1 W5 (.pointer pb) [3, 4, 7, 9] Fb := Hb.out.grow (Hgc.out.trans (Hgd.out.trans hg5))
  have hk5 : KidsAt (Cur 1) W5 (fun j => w.heap.size ≤ j ∧ j < w2.heap.size) [⟨.pointer pa, [1, 3, 5, 7], Fa⟩, ⟨.pointer pb, [3, 4, 7, 9], Fb⟩] := by
    refine ⟨fun k hk => ?_, fun k hk j hj => ?_, fun i j x y hi hj hne z hx hy => ?_⟩
    · simp only [List.mem_cons, List.not_mem_nil, or_false] at hk
      rcases hk with rfl | rfl
      · exact ha5
      · exact hb5
    · simp only [List.mem_cons, List.not_mem_nil, or_false] at hk
      rcases hk with rfl | rfl
      · have := Hfa.out j hj
        omega
      · have := Hfb.out j hj
        omega
    · match i, j, hi, hj with
      | 0, 0, _, _ => exact hne rfl
      | 1, 1, _, _ => exact hne rfl
      | 0, 1, hi, hj =>
        cases hi; cases hj
        have h1 := (Hfa.out z hx).2
        have h2 := (Hfb.out z hy).1
        omega
      | 1, 0, hi, hj =>
        cases hi; cases hj
        have h1 := (Hfa.out z hy).2
        have h2 := (Hfb.out z hx).1
        omega
  have Hm := Lib.hid (cMeet_any W5 (fun j => w.heap.size ≤ j ∧ j < w2.heap.size) W5.heap.size (some ⟨w4.heap.size, 0, none⟩) 2 2 [⟨.pointer pa, [1, 3, 5, 7], Fa⟩, ⟨.pointer pb, [3, 4, 7, 9], Fb⟩] hm5 (Nat.le_refl _) (by omega) hk5)
  have Hg5 := Lib.hid hg5
  have Hc5 := Lib.hid (Hc.out.grow (Hgd.out.trans hg5))
  have Hd5 := Lib.hid (Hd.out.grow hg5)
  have hz5 := hg5.size
  clear hm5 ha5 hb5 hk5 hg5
  go_wp2_with fail
  clear hW5
  refine Hm.out.mono ?_
  rintro e w6 ⟨v, F, rfl, h6, f6, g6⟩
  have e6 : meetL ([⟨.pointer pa, [1, 3, 5, 7], Fa⟩, ⟨.pointer pb, [3, 4, 7, 9], Fb⟩].map Kid.l) = [3, 7] := by
    show meetL [[1, 3, 5, 7], [3, 4, 7, 9]] = [3, 7]
    decide
  rw [e6] at h6
  obtain ⟨p, rfl⟩ := h6.isPtr
  have Ht := Lib.hid (cTake_any 2 w6 p [3, 7] F 9 h6 (by decide))
  have Hf6 := Lib.hid f6
  have Hc6 := Lib.hid (Hc5.out.grow g6)
  have Hd6 := Lib.hid (Hd5.out.grow g6)
  have Hg6 := Lib.hid g6
  have hz6 := g6.size
  clear h6 f6 g6 e6 Hm
  go_wp2_with fail
  refine Ht.out.mono ?_
  rintro e w7 ⟨x, rfl, ho7, F7, h7, k7, f7⟩
  obtain ⟨A7, c7, rfl, hn7, hc7, hr7⟩ := own_reads ho7
  have Hk7 := Lib.hid k7
  have hz7 := k7.size
  have hg67 : Keep F w6 w7 := Hk7.out
  have hoffc : ∀ j, Fc j → ¬ F j := fun j hj hF => by
    have h1 := Hfc.out j hj
    rcases Hf6.out j hF with h | h <;> omega
  have hoffd : ∀ j, Fd j → ¬ F j := fun j hj hF => by
    have h1 := Hfd.out j hj
    rcases Hf6.out j hF with h | h <;> omega
  have Hc7 := Lib.hid (Hc6.out.kept hg67 hoffc)
  have Hd7 := Lib.hid (Hd6.out.kept hg67 hoffd)
  have hbel : Below w.heap.size w w7 := by
    have h1 : Grow w w6 := Hga.out.trans (Hgb.out.trans (Hgc.out.trans (Hgd.out.trans (Hg5.out.trans Hg6.out))))
    refine Below.trans h1 (hg67.below (fun j hF => ?_) h1.size)
    rcases Hf6.out j hF with h | h <;> omega
  have Hbel := Lib.hid hbel
  have Hs7 := Lib.hid (show Calls Try.prog 10 #[.slice A7 2 c7, .slice (some ⟨w7.heap.size, 0, none⟩) 2 2] (w7.alloc (.cells #[.int .i64 3, .int .i64 7] 3)) (fun e w' => e = .returned (.bool true) ∧ ∃ q, (w7.alloc (.cells #[.int .i64 3, .int .i64 7] 3)).drewN q = w') from
    SameInts_any (w7.alloc (.cells #[.int .i64 3, .int .i64 7] 3)) w7.heap.size (w7.heap.size + 1) A7 (some ⟨w7.heap.size, 0, none⟩) 2 c7 2 2 [3, 7] [3, 7] (ReadsAt.below hr7 (Grow.alloc w7 _)) (IntsAt.lit w7 3 [3, 7]) (by unfold maxLen; omega) (by unfold maxLen; omega))
  clear ho7 hr7 h7 k7 f7 hg67 hoffc hoffd hbel
  go_wp2_with fail
  refine Hs7.out.mono ?_
  rintro e w8 ⟨rfl, q8, hw8⟩
  have hg78 : Grow w7 w8 := by rw [← hw8]; exact (Grow.alloc w7 _).trans (Grow.drewN _ q8)
  have hz8 := hg78.size
  have Hb8 := Lib.hid (Below.trans Hbel.out (Below.mono hg78 (by have := Hga.out.size; omega)))
  have hc8 := Hc7.out.grow hg78
  have hd8 := Hd7.out.grow hg78
  clear hw8 hg78 Hs7
  have hk8 : KidsAt (Cur 1) w8 (fun j => w2.heap.size ≤ j) [⟨.pointer pc, [1, 3, 5, 7], Fc⟩, ⟨.pointer pd, [3, 4, 7, 9], Fd⟩] := by
    refine ⟨fun k hk => ?_, fun k hk j hj => ?_, fun i j x y hi hj hne z hx hy => ?_⟩
    · simp only [List.mem_cons, List.not_mem_nil, or_false] at hk
      rcases hk with rfl | rfl
      · exact hc8
      · exact hd8
    · simp only [List.mem_cons, List.not_mem_nil, or_false] at hk
      rcases hk with rfl | rfl
      · have := Hfc.out j hj
        omega
      · have := Hfd.out j hj
        omega
    · match i, j, hi, hj with
      | 0, 0, _, _ => exact hne rfl
      | 1, 1, _, _ => exact hne rfl
      | 0, 1, hi, hj =>
        cases hi; cases hj
        have h1 := (Hfc.out z hx).2
        have h2 := (Hfd.out z hy).1
        omega
      | 1, 0, hi, hj =>
        cases hi; cases hj
        have h1 := (Hfc.out z hy).2
        have h2 := (Hfd.out z hx).1
        omega
  have Hm := Lib.hid (cLess_any w8 (fun j => w2.heap.size ≤ j) ⟨.pointer pc, [1, 3, 5, 7], Fc⟩ ⟨.pointer pd, [3, 4, 7, 9], Fd⟩ hk8)
  clear hc8 hd8 hk8
  go_wp2_with fail
  refine Hm.out.mono ?_
  rintro e w9 ⟨v, G, rfl, h9, f9, g9⟩
  have e9 : lessL [1, 3, 5, 7] [3, 4, 7, 9] = [1, 5] := by decide
  rw [show lessL (Kid.mk (.pointer pc) [1, 3, 5, 7] Fc).l (Kid.mk (.pointer pd) [3, 4, 7, 9] Fd).l = [1, 5] from e9] at h9
  obtain ⟨p9, rfl⟩ := h9.isPtr
  have Ht := Lib.hid (cTake_any 2 w9 p9 [1, 5] G 9 h9 (by decide))
  have Hf9 := Lib.hid f9
  have hz9 := g9.size
  have Hb9 := Lib.hid (Below.trans Hb8.out (Below.mono g9 (by have := Hb8.out.size; omega)))
  clear h9 f9 g9 e9 Hm
  go_wp2_with fail
  refine Ht.out.mono ?_
  rintro e w10 ⟨x, rfl, ho10, F10, h10, k10, f10⟩
  obtain ⟨A10, c10, rfl, hn10, hc10, hr10⟩ := own_reads ho10
  have hz10 := k10.size
  have Hb10 := Lib.hid (show Below w.heap.size w w10 from Below.trans Hb9.out (k10.below (fun j hF => by
    rcases Hf9.out j hF with h | h <;> omega) Hb9.out.size))
  have Hs10 := Lib.hid (show Calls Try.prog 10 #[.slice A10 2 c10, .slice (some ⟨w10.heap.size, 0, none⟩) 2 2] (w10.alloc (.cells #[.int .i64 1, .int .i64 5] 3)) (fun e w' => e = .returned (.bool true) ∧ ∃ q, (w10.alloc (.cells #[.int .i64 1, .int .i64 5] 3)).drewN q = w') from
    SameInts_any (w10.alloc (.cells #[.int .i64 1, .int .i64 5] 3)) w10.heap.size (w10.heap.size + 1) A10 (some ⟨w10.heap.size, 0, none⟩) 2 c10 2 2 [1, 5] [1, 5] (ReadsAt.below hr10 (Grow.alloc w10 _)) (IntsAt.lit w10 3 [1, 5]) (by unfold maxLen; omega) (by unfold maxLen; omega))
  clear ho10 hr10 h10 k10 f10
  go_wp2_with fail
  refine Hs10.out.mono ?_
  rintro e w11 ⟨rfl, q11, hw11⟩
  have Hb11 := Lib.hid (show Grow w w11 from by rw [← hw11]; exact Below.trans Hb10.out (Below.mono ((Grow.alloc w10 _).trans (Grow.drewN _ q11)) Hb10.out.size))
  clear hw11 Hs10
  go_wp2
  go_ret
  exact ⟨rfl, Hb11.out⟩
end Go.Proofs.Ythjnggclemhgkaa
