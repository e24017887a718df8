/-
  The walk of gram's awake: the chapter's example.
-/
import Derived.Test.YtfjnjlcmikhehaaGreatGramPost
import Derived.Test.YtfjnjlcmikhehaaGreatGramSort
import Derived.Test.YtfjnjlcmikhehaaGreatGramHas
import Derived.Lib.SlBytesConst
namespace Go.Proofs.YtfjnjlcmikhehaaGreat
open Go.RowKit Go.Shelf GramM
set_option linter.unusedVariables false
theorem sortG_of {gs : List Gr} (h : gs.Pairwise fun x y => numG x < numG y) : sortG gs = gs := by
  unfold sortG
  refine List.mergeSort_of_pairwise (h.imp fun {x y} hxy => ?_)
  have : ¬ numG y < numG x := by omega
  simp [this]
def abc : List Gr := [(97, 98, 99), (98, 99, 97), (99, 97, 98)]
theorem abc_grams : grams [97, 98, 99, 97, 98] = abc := rfl
theorem abc_firsts : firsts [] abc = abc := by decide
theorem abc_sort : sortG abc = abc := sortG_of (by decide)
theorem abc_pos : posOf abc (99, 97, 98) 3 = [2] := by decide
set_option maxRecDepth 100000 in
set_option maxHeartbeats 2000000 in
theorem awake07_any (w : World) : Calls Tryz.prog 5 #[] w fun e w' => e = .returned (.bool true) ∧ Grow w w' := by
  have kc := fun (w : World) (C : Array Value) (n c : Nat) => Lib.run_convert_bytes_const (P := Tryz.prog) w 22 5 C n c Tryz.underlying22 Tryz.underlying5
  have hBy : ∀ W : World, BytesAt (W.alloc (.cells #[.int .u8 97, .int .u8 98, .int .u8 99, .int .u8 97, .int .u8 98] 5 (5, 6))) (W.heap.size + 1) (some ⟨W.heap.size, 0, none⟩) 5 [97, 98, 99, 97, 98] := fun W => BytesAt.of_row (Cells.new W 5 ([97, 98, 99, 97, 98].map b8).toArray (5, 6)) (by simp)
  go_enter Tryz.func5, Tryz.ntmps5
  go_wp2_with fail
  refine (posts_any sortsG (w.alloc (.cells #[.int .u8 97, .int .u8 98, .int .u8 99, .int .u8 97, .int .u8 98] 5 (5, 6))) (w.heap.size + 1) _ 5 5 _ (hBy w) (by simp) (by omega) (by unfold maxLen; omega) (by omega)).mono ?_
  rintro e w1 ⟨v, F, rfl, hg1, ho1, hF1, -⟩
  rw [abc_grams, abc_firsts, abc_sort, show abc.length = 3 from rfl] at ho1
  rw [abc_grams, abc_firsts] at hF1
  have hF := hF1 (99, 97, 98) (by decide)
  rw [show abc.length = 3 from rfl, abc_pos] at hF
  obtain ⟨A1, c1, rfl, h11, h12, h13⟩ := own_reads ho1
  obtain ⟨A2, c2, hFe, h21, h22, h23⟩ := own_reads hF
  rw [show ([2] : List Nat).length = 1 from rfl] at h23
  have H13 := Lib.hid h13
  have H23 := Lib.hid h23
  have HFe := Lib.hid hFe
  have Hg1 := Lib.hid ((Grow.alloc w (.cells #[.int .u8 97, .int .u8 98, .int .u8 99, .int .u8 97, .int .u8 98] 5 (5, 6))).trans hg1)
  clear h13 h23 hF hFe hF1 ho1 hg1
  go_wp2_with fail
  refine (grams_any sortsG (w1.alloc (.cells #[.int .u8 97, .int .u8 98, .int .u8 99, .int .u8 97, .int .u8 98] 5 (5, 6))) (w1.heap.size + 1) _ 5 5 _ (hBy w1) (by simp) (by omega) (by unfold maxLen; omega) (by omega)).mono ?_
  rintro e w2 ⟨v2, rfl, hg2, ho2⟩
  rw [abc_grams, abc_firsts, abc_sort, show abc.length = 3 from rfl] at ho2
  obtain ⟨A3, c3, rfl, h31, h32, h33⟩ := own_reads ho2
  have H33 := Lib.hid h33
  have Hg2 := Lib.hid ((Grow.alloc w1 (.cells #[.int .u8 97, .int .u8 98, .int .u8 99, .int .u8 97, .int .u8 98] 5 (5, 6))).trans hg2)
  clear h33 ho2 hg2 hBy
  go_wp2_with fail
  have hT : TextsAt (w2.alloc (.cells #[.string ⟨#[97, 98, 99]⟩, .string ⟨#[98, 99, 97]⟩, .string ⟨#[99, 97, 98]⟩] 9)) (w2.heap.size + 1) (some ⟨w2.heap.size, 0, none⟩) 3 [⟨#[97, 98, 99]⟩, ⟨#[98, 99, 97]⟩, ⟨#[99, 97, 98]⟩] := ReadsAt.made w2 9 [.string ⟨#[97, 98, 99]⟩, .string ⟨#[98, 99, 97]⟩, .string ⟨#[99, 97, 98]⟩]
  have hT3 : TextsAt w2 w2.heap.size A3 3 [⟨#[97, 98, 99]⟩, ⟨#[98, 99, 97]⟩, ⟨#[99, 97, 98]⟩] := H33.out
  refine (SameTexts_any _ w2.heap.size (w2.heap.size + 1) A3 (some ⟨w2.heap.size, 0, none⟩) 3 c3 3 3 _ _ (hT3.below (Grow.alloc w2 (.cells #[.string ⟨#[97, 98, 99]⟩, .string ⟨#[98, 99, 97]⟩, .string ⟨#[99, 97, 98]⟩] 9))) hT (by unfold maxLen; omega) (by unfold maxLen; omega)).mono ?_
  rintro e w3 ⟨bb, rfl, hbb, q, rfl⟩
  obtain rfl : bb = true := hbb.2 rfl
  have hG3 : Grow w1 ((w2.alloc (.cells #[.string ⟨#[97, 98, 99]⟩, .string ⟨#[98, 99, 97]⟩, .string ⟨#[99, 97, 98]⟩] 9)).drewN q) := (Hg2.out.trans (Grow.alloc _ _)).trans (show Grow (w2.alloc (.cells #[.string ⟨#[97, 98, 99]⟩, .string ⟨#[98, 99, 97]⟩, .string ⟨#[99, 97, 98]⟩] 9)) _ from ⟨rfl, rfl, rfl, Nat.le_refl _, fun _ _ => rfl⟩)
  obtain ⟨w4, hw4⟩ : ∃ w4, (w2.alloc (.cells #[.string ⟨#[97, 98, 99]⟩, .string ⟨#[98, 99, 97]⟩, .string ⟨#[99, 97, 98]⟩] 9)).drewN q = w4 := ⟨_, rfl⟩
  rw [hw4] at hG3 ⊢
  clear hw4 hT hT3 hbb
  obtain ⟨b1, o1, rfl, hb1, hc1⟩ := (H13.out.below hG3).2 (by omega)
  obtain ⟨b2, o2, rfl, hb2, hc2⟩ := (H23.out.below hG3).2 (by omega)
  have hx1 : w4.cell? ⟨b1, o1 + 2 * 2, none⟩ = some (.string ⟨#[99, 97, 98]⟩) := hc1 4 _ rfl
  have hx2 : w4.cell? ⟨b1, o1 + 2 * 2 + 1, none⟩ = some (F (99, 97, 98)) := hc1 5 _ rfl
  rw [HFe.out] at hx2
  have hx3 : w4.cell? ⟨b2, o2 + 1, none⟩ = some (.int .i64 2) := hc2 1 _ rfl
  have Hfin := Lib.hid (Hg1.out.trans hG3)
  clear hc1 hc2 hG3
  go_wp2_with fail
  go_ret
  exact ⟨rfl, Hfin.out⟩
end Go.Proofs.YtfjnjlcmikhehaaGreat
