/-
  The walks of the document's At and Run.
-/
import Derived.Test.YtfjnjlcmikhehaaGreatGramAt
import Derived.Test.YtfjnjlcmikhehaaGreatBaseE
import Derived.Laws.DeepStrings4
namespace Go.Proofs.YtfjnjlcmikhehaaGreat
open Go.RowKit Go.Shelf GramM
set_option linter.unusedVariables false
set_option maxRecDepth 100000 in
set_option maxHeartbeats 2000000 in
theorem rgAt_any (w : World) (B : Nat) (A : Option Addr) (n c : Nat) (b : List UInt8) (i : Int) (hb : BytesAt w B A n b) (hnc : n ≤ c) (hn : n ≤ 1099511627776) (hi : i ≤ 9223372036854775807) (hi0 : -9223372036854775808 ≤ i) :
    Calls Tryz.prog 8 #[.slice A n c, .int .i64 i] w fun e w' => e = .returned (atV (grams b) i) ∧ w' = w := by
  have hgl : (grams b).length = n - 2 := by rw [grams_len, hb.len]
  by_cases h0 : i < 0
  · have hv : atV (grams b) i = .tuple #[.string .empty, .bool false] := by
      unfold atV
      rw [if_neg (by omega)]
    rw [hv]
    clear hb hv hgl
    have d1 : decide (i < 0) = true := decide_eq_true h0
    go_enter Tryz.func8, Tryz.ntmps8
    go_wp2
    refine bodyPost_ret (results_tmp2 rfl _ _ _) rfl ?_
    exact ⟨rfl, rfl⟩
  · obtain ⟨k, rfl⟩ : ∃ k : Nat, i = (k : Int) := ⟨i.toNat, by omega⟩
    have d1 : decide ((k : Int) < 0) = false := decide_eq_false h0
    by_cases h1 : (n : Int) - 3 < (k : Int)
    · have hv : atV (grams b) (k : Int) = .tuple #[.string .empty, .bool false] := by
        unfold atV
        rw [if_pos (by omega), Int.toNat_natCast, List.getElem?_eq_none (by omega)]
      rw [hv]
      clear hb hv hgl
      have d2 : decide ((n : Int) - 3 < (k : Int)) = true := decide_eq_true h1
      go_enter Tryz.func8, Tryz.ntmps8
      go_wp2
      refine bodyPost_ret (results_tmp2 rfl _ _ _) rfl ?_
      exact ⟨rfl, rfl⟩
    · have hk3 : k + 3 ≤ n := by omega
      obtain ⟨⟨x, y, z⟩, hg⟩ : ∃ g, (grams b)[k]? = some g := ⟨_, List.getElem?_eq_getElem (by omega)⟩
      have hv : atV (grams b) (k : Int) = .tuple #[.string ⟨#[x, y, z]⟩, .bool true] := by
        unfold atV
        rw [if_pos (by omega), Int.toNat_natCast, hg]
        rfl
      obtain ⟨b0, off, rfl, hlt, hcs⟩ := hb.at_ (by omega)
      obtain ⟨g1, g2, g3⟩ := grams_of hg
      have hcv := conv3 w b0 (off + k) (c - k) x y z (hcs k x g1) (by rw [Nat.add_assoc]; exact hcs _ y g2) (by rw [Nat.add_assoc]; exact hcs _ z g3)
      have d2 : decide ((n : Int) - 3 < (k : Int)) = false := decide_eq_false h1
      rw [hv]
      clear hb hv hg hgl g1 g2 g3 hcs
      go_enter Tryz.func8, Tryz.ntmps8
      go_wp2
      refine bodyPost_ret (results_tmp2 rfl _ _ _) rfl ?_
      exact ⟨rfl, rfl⟩
/-- texts that are told -/
def TextsTo (w : World) (gs : List Gr) (e : Ending) (w' : World) : Prop := ∃ v, e = .returned v ∧ Grow w w' ∧ w'.ownsRow w.heap.size 9 1 v gs.length (grT gs)
theorem grT_snoc (gs : List Gr) (g : Gr) : grT (gs ++ [g]) = grT gs ++ [.string (grS g)] := by simp [grT]
/-- three bytes of a text are a gram -/
theorem ext3 (s : ByteArray) (k : Nat) (g : Gr) (h : (grams s.data.toList)[k]? = some g) : s.extract k (k + 3) = grS g := by
  obtain ⟨h1, h2, h3⟩ := grams_of h
  have hl : k + 2 < s.data.size := by
    have := (List.getElem?_eq_some_iff.1 h3).1
    simpa using this
  have hl2 : k + 2 < s.size := hl
  have e : (s.extract k (k + 3)).data = #[g.1, g.2.1, g.2.2] := by
    rw [ByteArray.data_extract]
    refine Array.ext (by simp only [Array.size_extract, List.size_toArray, List.length_cons, List.length_nil]; omega) fun i hi1 hi2 => ?_
    rw [Array.getElem_extract]
    have hi : i < 3 := by simpa using hi2
    have hget : ∀ (j : Nat) (x : UInt8) (hj : j < s.data.size), s.data.toList[j]? = some x → s.data[j] = x := fun j x hj h => by
      rw [Array.getElem?_toList, Array.getElem?_eq_getElem hj] at h
      injection h
    rcases i with _ | _ | _ | i
    · exact hget _ _ (by omega) h1
    · exact hget _ _ (by omega) h2
    · exact hget _ _ (by omega) h3
    · omega
  show s.extract k (k + 3) = ⟨#[g.1, g.2.1, g.2.2]⟩
  rw [← e]
set_option maxRecDepth 100000 in
set_option maxHeartbeats 2000000 in
theorem rgRun_any (w : World) (s : ByteArray) (hn : s.size ≤ 1099511627776) :
    Calls Tryz.prog 16 #[.string s] w (TextsTo w (grams s.data.toList)) := by
  have textTy : AppTy Tryz.prog 30 9 (.string .empty) 1 16 := AppTy.mk' Tryz.underlying30 (by kernel_rfl) rfl (by decide)
  have Hlen := Lib.hid (show (grams s.data.toList).length = s.size - 2 by rw [grams_len]; rfl)
  have Hext := Lib.hid (ext3 s)
  obtain ⟨gs, hgs⟩ : ∃ gs, gs = grams s.data.toList := ⟨_, rfl⟩
  rw [← hgs] at Hlen Hext ⊢
  obtain ⟨n, hsn⟩ : ∃ n, n = s.size := ⟨_, rfl⟩
  rw [← hsn] at Hlen hn
  have Hsn := Lib.hid hsn
  clear hgs hsn
  have hgl : gs.length ≤ 1099511627776 := by have := Hlen.out; omega
  go_enter Tryz.func16, Tryz.ntmps16
  go_wp2_with fail
  go_loopw [3, 4] (fun v3 v4 wr => ∃ (k : Nat) (v : Value), k ≤ gs.length ∧ v = v3 ∧ v4 = .int .i64 (k : Int) ∧ Hid (wr.ownsRow w.heap.size 9 1 v (gs.take k).length (grT (gs.take k))) ∧ Hid (Below w.heap.size w wr)) (fun _ v4 _ => gs.length - (intOf v4).toNat)
  case atStart => exact ⟨0, _, by omega, rfl, rfl, World.ownsRow_nil _ _ _ _, Below.refl _ _⟩
  case round =>
    obtain ⟨k, v, hk, rfl, rfl, ho, hg⟩ := hrel
    by_cases hlt : k < gs.length
    · have hk3 : k + 3 ≤ n := by have := Hlen.out; omega
      have d1 : decide ((k : Int) + 3 ≤ (s.size : Int)) = true := decide_eq_true (by rw [← Hsn.out]; omega)
      obtain ⟨g, hgk⟩ : ∃ g, gs[k]? = some g := ⟨_, List.getElem?_eq_getElem hlt⟩
      have hex := Hext.out k g hgk
      obtain ⟨t, ht⟩ : ∃ t, t = grS g := ⟨_, rfl⟩
      rw [← ht] at hex
      have Hs2 := Lib.hid (show grT (gs.take (k + 1)) = grT (gs.take k) ++ [.string t] ∧ (gs.take (k + 1)).length = (gs.take k).length + 1 by
        rw [List.take_add_one, hgk, ht]
        exact ⟨grT_snoc _ _, by simp⟩)
      have Hsz := Lib.hid (show k + 3 ≤ s.size by rw [← Hsn.out]; exact hk3)
      obtain ⟨R, hR⟩ : ∃ R, R = grT (gs.take k) := ⟨_, rfl⟩
      obtain ⟨q, hq⟩ : ∃ q, q = (gs.take k).length := ⟨_, rfl⟩
      have hqk : q ≤ k := by rw [hq]; exact List.length_take_le _ _
      rw [← hR, ← hq] at ho Hs2
      have hown := own_below ho.out (Grow.alloc wr (.cells #[.string t] 9))
      have hgz := hg.out.size
      have G1 := Lib.hid (show q + 1 ≤ maxLen by unfold maxLen; omega)
      have G2 := Lib.hid (show (q + 1) * 16 ≤ 140737488355328 by omega)
      have G3 := Lib.hid (show w.heap.size ≤ (wr.alloc (.cells #[.string t] 9)).heap.size from Nat.le_trans hgz (Grow.alloc _ _).size)
      have hrs : ∀ W, (Instr.slice 9 (.string s) (some (.int .i64 (k : Int))) (some (.int .i64 ((k : Int) + 3))) none).run Tryz.prog W = .ok (.string t) W := fun W => by
        rw [run_slice_string_if W 9 s .i64 .i64 (k : Int) ((k : Int) + 3) Tryz.underlying9, if_pos (by have := Hsz.out; omega), if_pos (by omega), show ((k : Int) + 3).toNat = k + 3 by omega, Int.toNat_natCast, hex]
      clear ht hR hq hgk
      go_wp2_with (at_builtin; refine wpList_append_reads _ rfl (.tmp 12) (.tmp 18) rfl textTy rfl hown rfl (ReadsAt.made1 wr 9 (.string t)) (by simp [Value.oneCell']) G1.out G2.out G3.out ?_; intro v' w2 hown2 hgr2 hat2)
      have hg2 : Below w.heap.size w w2 := Below.trans (Below.trans hg.out (Below.mono (Grow.alloc wr (.cells #[.string t] 9)) hgz)) ((Keep.grown hgr2).below (fun j hj => (hown.lt j hj).1) G3.out)
      have Ho2 := Lib.hid (show w2.ownsRow w.heap.size 9 1 v' (gs.take (k + 1)).length (grT (gs.take (k + 1))) by
        rw [Hs2.out.1, Hs2.out.2]
        exact hown2)
      have Hg2 := Lib.hid hg2
      clear hgr2 hat2 hown hown2 hg2 hgz
      go_roundw
      case rel => exact ⟨k + 1, _, by omega, rfl, by go_num, Ho2, Hg2⟩
      case measure => simp [intOf]; omega
    · have d1 : decide ((k : Int) + 3 ≤ (s.size : Int)) = false := decide_eq_false (by rw [← Hsn.out]; have := Hlen.out; omega)
      obtain rfl : k = gs.length := by omega
      rw [List.take_length] at ho
      obtain ⟨A1, c1, rfl, -, -, -⟩ := own_reads ho.out
      go_wp2
      go_ret
      exact ⟨_, rfl, hg.out, ho.out⟩
end Go.Proofs.YtfjnjlcmikhehaaGreat
