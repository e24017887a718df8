/-
  The walks of gram's Grams, Places and At.
-/
import Derived.Test.YtfjnjlcmikhehaaGreatGramPl
import Derived.Laws.BytesArg
namespace Go.Proofs.YtfjnjlcmikhehaaGreat
open Go.RowKit Go.Shelf GramM
set_option linter.unusedVariables false
/-- a gram's text -/
def grS (g : Gr) : ByteArray := ⟨#[g.1, g.2.1, g.2.2]⟩
def grT (gs : List Gr) : List Value := gs.map fun g => .string (grS g)
theorem conv3 (W : World) (m o c : Nat) (x y z : UInt8) (h1 : W.cell? ⟨m, o, none⟩ = some (b8 x)) (h2 : W.cell? ⟨m, o + 1, none⟩ = some (b8 y)) (h3 : W.cell? ⟨m, o + 2, none⟩ = some (b8 z)) :
    (convert 22 9 (.slice (some ⟨m, o, none⟩) 3 c)).run Tryz.prog W = .ok (.string ⟨#[x, y, z]⟩) W := by
  have h := run_convert_bytes_arg (P := Tryz.prog) W 22 5 Tryz.underlying22 Tryz.underlying5 m o 3 c [(x.toNat : Int), (y.toNat : Int), (z.toNat : Int)] rfl (fun i hi => by
    rcases i with _ | _ | _ | i
    · exact h1
    · exact h2
    · exact h3
    · omega) 9 Tryz.underlying9
  rw [h]
  have e : strOfNums [(x.toNat : Int), (y.toNat : Int), (z.toNat : Int)] = ⟨#[x, y, z]⟩ := by simp [strOfNums]
  rw [e]
theorem grC_len (gs : List Gr) : (grC gs).length = gs.length * 3 := by
  induction gs with
  | nil => rfl
  | cons g t ih =>
    show ([b8 g.1, b8 g.2.1, b8 g.2.2] ++ grC t).length = _
    rw [List.length_append, ih, List.length_cons]
    simp only [List.length_cons, List.length_nil]
    omega
theorem grC_get : ∀ {gs : List Gr} {k : Nat} {g : Gr}, gs[k]? = some g → (grC gs)[k * 3]? = some (b8 g.1) ∧ (grC gs)[k * 3 + 1]? = some (b8 g.2.1) ∧ (grC gs)[k * 3 + 2]? = some (b8 g.2.2)
  | [], k, g, h => by simp at h
  | h :: t, 0, g, e => by
    injection e with e
    subst e
    exact ⟨rfl, rfl, rfl⟩
  | h :: t, k + 1, g, e => by
    have := grC_get (gs := t) (k := k) (g := g) (by simpa using e)
    rw [show (k + 1) * 3 = k * 3 + 3 by omega]
    exact this
set_option maxRecDepth 100000 in
set_option maxHeartbeats 4000000 in
theorem grams_any (hsort : SortsG) (w : World) (B : Nat) (A : Option Addr) (n c : Nat) (b : List UInt8) (hb : BytesAt w B A n b) (hB : B ≤ w.heap.size) (hnc : n ≤ c) (hcm : c ≤ maxLen) (hn : n ≤ 1099511627776) :
    Calls Tryz.prog 10 #[.slice A n c] w fun e w' => ∃ v, e = .returned v ∧ Grow w w' ∧ w'.ownsRow w.heap.size 9 1 v (sortG (firsts [] (grams b))).length (grT (sortG (firsts [] (grams b)))) := by
  have stringTy : AppTy Tryz.prog 30 9 (.string .empty) 1 16 := AppTy.mk' Tryz.underlying30 (by kernel_rfl) rfl (by decide)
  have Hp := Lib.hid (gplaces_any hsort w B A n c b hb hB hnc hcm hn)
  have hfl : (firsts [] (grams b)).length ≤ n := by
    refine Nat.le_trans (firsts_len _ _) ?_
    rw [grams_len, hb.len]
    simp only [List.length_nil]
    omega
  obtain ⟨L, hL⟩ : ∃ L, L = firsts [] (grams b) := ⟨_, rfl⟩
  have hLs := sortG_len L
  have Hpl := Lib.hid (show ∀ e w', PlTo w (grams b) e w' → ∃ v, e = .returned (.tuple #[.map (some w.heap.size), v]) ∧ Grow w w' ∧ w'.ownsRow (w.heap.size + 3) 51 3 v (sortG L).length (grC (sortG L)) from fun e w' h => by
    obtain ⟨v, h1, h2, -, h3⟩ := h
    rw [hL, sortG_len]
    exact ⟨v, h1, h2, h3⟩)
  rw [← hL] at hfl ⊢
  obtain ⟨Q, hQ⟩ : ∃ Q, Q = sortG L := ⟨_, rfl⟩
  rw [← hQ] at Hpl hLs ⊢
  rw [← hLs] at hfl
  clear hQ hLs hL hb hB hnc hcm hsort
  go_enter Tryz.func10, Tryz.ntmps10
  go_wp2_with (go_at_call 21; refine Hp.out.mono ?_; intro e w1 hp; obtain ⟨v, rfl, hg1, ho1⟩ := Hpl.out _ _ hp; clear hp; obtain ⟨A1, c1, rfl, hnc1, hcm1, hr1⟩ := own_reads ho1)
  have Hg1 := Lib.hid hg1
  have Hr1 := Lib.hid hr1
  obtain ⟨m, hm⟩ : ∃ m, m = Q.length := ⟨_, rfl⟩
  rw [← hm] at hfl hnc1 Hr1 ⊢
  have Hm := Lib.hid hm
  clear hm hg1 hr1 ho1 Hpl Hp
  go_loopw [2, 14] (fun v2 v14 wr => ∃ (k : Nat) (u : Value), k ≤ m ∧ u = v2 ∧ v14 = .int .i64 (k : Int) ∧ Hid (wr.ownsRow w1.heap.size 9 1 u (Q.take k).length (grT (Q.take k))) ∧ Hid (Grow w1 wr)) (fun _ v14 _ => m - (intOf v14).toNat)
  case atStart => exact ⟨0, _, by omega, rfl, rfl, World.ownsRow_nil _ _ _ _, Grow.refl _⟩
  case round =>
    obtain ⟨k, u, hk, rfl, rfl, ho, hg⟩ := hrel
    by_cases hlt : k < m
    · have d1 : decide ((k : Int) < (m : Int)) = true := decide_eq_true (by omega)
      obtain ⟨⟨x, y, z⟩, hx⟩ : ∃ g, Q[k]? = some g := ⟨_, List.getElem?_eq_getElem (by rw [← Hm.out]; exact hlt)⟩
      obtain ⟨g1, g2, g3⟩ := grC_get hx
      obtain ⟨bb, off, rfl, hbb, hcs⟩ := (Hr1.out.below hg.out).2 (by omega)
      have hc1 : wr.cell? ⟨bb, off + k * 3, none⟩ = some (.int .u8 (x.toNat : Int)) := hcs _ _ g1
      have hc2 : wr.cell? ⟨bb, off + k * 3 + 1, none⟩ = some (.int .u8 (y.toNat : Int)) := hcs _ _ g2
      have hc3 : wr.cell? ⟨bb, off + k * 3 + 2, none⟩ = some (.int .u8 (z.toNat : Int)) := hcs _ _ g3
      have hbx := Blk.new wr 51 #[.int .u8 (x.toNat : Int), .int .u8 (y.toNat : Int), .int .u8 (z.toNat : Int)]
      have hcv := conv3 (wr.alloc (.cells #[.int .u8 (x.toNat : Int), .int .u8 (y.toNat : Int), .int .u8 (z.toNat : Int)] 51)) wr.heap.size 0 3 x y z (hbx.cell 0) (hbx.cell 1) (hbx.cell 2)
      have Hs2 := Lib.hid (show Q.take (k + 1) = Q.take k ++ [(x, y, z)] by rw [List.take_add_one, hx]; rfl)
      obtain ⟨R, hR⟩ : ∃ R, R = Q.take k := ⟨_, rfl⟩
      have hRl : R.length ≤ k := by rw [hR]; exact List.length_take_le _ _
      rw [← hR] at ho Hs2
      obtain ⟨q, hq⟩ : ∃ q, q = R.length := ⟨_, rfl⟩
      rw [← hq] at ho hRl
      have Hq := Lib.hid hq
      clear hx hR hq g1 g2 g3 hcs hbx
      have hown := Lib.hid (own_below (own_below ho.out (Grow.alloc wr (.cells #[.int .u8 (x.toNat : Int), .int .u8 (y.toNat : Int), .int .u8 (z.toNat : Int)] 51))) (Grow.alloc _ (.cells #[.string ⟨#[x, y, z]⟩] 9)))
      have hgz := hg.out.size
      have Hrd := Lib.hid (show ReadsAt ((wr.alloc (.cells #[.int .u8 (x.toNat : Int), .int .u8 (y.toNat : Int), .int .u8 (z.toNat : Int)] 51)).alloc (.cells #[.string ⟨#[x, y, z]⟩] 9)) (wr.heap.size + 1 + 1) 1 (some ⟨wr.heap.size + 1, 0, none⟩) 1 [.string ⟨#[x, y, z]⟩] by
        have := ReadsAt.made1 (wr.alloc (.cells #[.int .u8 (x.toNat : Int), .int .u8 (y.toNat : Int), .int .u8 (z.toNat : Int)] 51)) 9 (.string ⟨#[x, y, z]⟩)
        simpa using this)
      have G1 := Lib.hid (show q + 1 ≤ maxLen by unfold maxLen; omega)
      have G2 := Lib.hid (show (q + 1) * 16 ≤ 140737488355328 by omega)
      have Hga := Lib.hid (show Grow wr ((wr.alloc (.cells #[.int .u8 (x.toNat : Int), .int .u8 (y.toNat : Int), .int .u8 (z.toNat : Int)] 51)).alloc (.cells #[.string ⟨#[x, y, z]⟩] 9)) from (Grow.alloc _ _).trans (Grow.alloc _ _))
      have G3 := Lib.hid (show w1.heap.size ≤ _ from Nat.le_trans hgz Hga.out.size)
      go_wp2_with (at_builtin; go_loud (refine wpList_append_reads _ rfl (.tmp 18) (.tmp 21) rfl stringTy rfl hown.out rfl Hrd.out (by simp [Value.oneCell']) G1.out G2.out G3.out ?_); intro v' w2 hown2 hgr2 hat2)
      have Ho2 := Lib.hid (show w2.ownsRow w1.heap.size 9 1 v' (Q.take (k + 1)).length (grT (Q.take (k + 1))) by
        rw [Hs2.out, List.length_append, ← Hq.out]
        unfold grT
        rw [List.map_append]
        exact hown2)
      have Hg2 := Lib.hid (Below.trans (hg.out.trans Hga.out) ((Keep.grown hgr2).below (fun j hj => (hown.out.lt j hj).1) G3.out))
      clear hgr2 hat2 hown2
      go_roundw
      case rel => exact ⟨k + 1, _, by omega, rfl, by go_num, Ho2, Hg2⟩
      case measure => simp [intOf]; omega
    · have d1 : decide ((k : Int) < (m : Int)) = false := decide_eq_false (by omega)
      obtain rfl : k = m := by omega
      rw [List.take_of_length_le (Nat.le_of_eq Hm.out.symm)] at ho
      have Ho := Lib.hid (own_base ho.out Hg1.out.size)
      have Hg := Lib.hid (Hg1.out.trans hg.out)
      clear ho hg
      go_wp2
      go_ret
      exact ⟨_, rfl, Hg.out, Ho.out⟩
end Go.Proofs.YtfjnjlcmikhehaaGreat
