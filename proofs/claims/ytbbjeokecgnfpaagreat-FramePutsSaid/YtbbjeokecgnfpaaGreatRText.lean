/-
  The walk of wire's Reader.Text.
-/
import Derived.Test.YtbbjeokecgnfpaaGreatRFixed
namespace Go.Proofs.YtbbjeokecgnfpaaGreat
open Go.RowKit WireM

def textOf : Nat × St → List UInt8 × St
  | (_, none) => ([], none)
  | (n, some l) => if n ≤ l.length then (l.take n, some (l.drop n)) else ([], none)
theorem text_of (most : Int) (st : St) : text most st = textOf (num most st) := rfl

set_option maxRecDepth 100000 in
set_option maxHeartbeats 4000000 in
theorem RText_any (w : World) (g : Nat) (A : Option Addr) (n c : Nat) (l : List UInt8) (bad : Bool) (most : Int) (h0 : Rd w g A n c l bad) (hl : l.length ≤ 140737488355328) :
    Calls Tryz.prog 114 #[.pointer (some ⟨g, 0, none⟩), .int .i64 most] w fun e w' => ∃ r B, e = .returned r ∧ w.heap.size ≤ B ∧ w'.ownsRow B 5 1 r (text most (stOf l bad)).1.length ((text most (stOf l bad)).1.map b8) ∧ RdAt w g (text most (stOf l bad)).2 l.length w' := by
  obtain ⟨T, hT⟩ : ∃ T, T = text most (stOf l bad) := ⟨_, rfl⟩
  obtain ⟨N, hN⟩ : ∃ N, N = num most (stOf l bad) := ⟨_, rfl⟩
  have HT := Lib.hid (show T = textOf N by rw [hT, hN, text_of])
  rw [← hT]
  clear hT
  go_enter Tryz.func114, Tryz.ntmps114
  go_wp2_with fail
  have hnum := RNumber_any w g A n c l bad most h0
  rw [← hN] at hnum
  clear hN
  refine hnum.mono ?_
  rintro e w1 ⟨rfl, A1, n1, c1, l1, b1, hd1, hs1, hl1, hk1⟩
  clear hnum
  obtain ⟨m, st⟩ := N
  obtain rfl : stOf l1 b1 = st := hs1
  have hlen1 := hd1.len
  have hcm1 := hd1.cm
  have hnc1 := hd1.nc
  by_cases hs : b1 = true ∨ n1 < m
  · have hTe : T = ([], none) := by
      rw [HT.out]
      cases b1 with
      | true => rfl
      | false =>
        have hlt : ¬ m ≤ l1.length := by rcases hs with h | h; cases h; omega
        rw [stOf_false, textOf, if_neg hlt]
    subst hTe
    clear HT
    go_wp2_with fail
    refine (take_bad w1 g A1 n1 c1 l1 b1 m hd1 hs).mono ?_
    rintro e w2 ⟨rfl, h1, h2⟩
    go_wp2_with fail
    refine (CloneBytes_any w2 w2.heap.size none 0 0 [] BytesAt.nil (Nat.le_refl _) (by omega)).mono ?_
    rintro e w3 ⟨r, rfl, hown, hg⟩
    go_wp2
    go_ret
    exact ⟨r, rfl, _, Nat.le_trans hk1.size h2.size, hown, A1, n1, c1, l1, true, h1.grow hg, rfl, hl1, (hk1.trans' h2).trans' (Keep.grow hg)⟩
  · have hb : b1 = false := by cases b1; rfl; exact absurd (Or.inl rfl) hs
    subst hb
    have hm : m ≤ n1 := by omega
    have hTe : T = (l1.take m, some (l1.drop m)) := by
      rw [HT.out]
      rw [stOf_false, textOf, if_pos (by omega)]
    subst hTe
    clear HT hs
    go_wp2_with fail
    refine (take_any w1 g A1 n1 c1 l1 m hd1 hm).mono ?_
    rintro e w2 ⟨rfl, h1, h2, h3⟩
    go_wp2_with fail
    have hmx : m ≤ 140737488355328 := by omega
    refine (CloneBytes_any w2 w2.heap.size A1 m c1 (l1.take m) h3 (Nat.le_refl _) hmx).mono ?_
    rintro e w3 ⟨r, rfl, hown, hg⟩
    go_wp2
    go_ret
    rw [List.length_take, Nat.min_eq_left (by omega), List.map_take] at hown
    exact ⟨r, rfl, _, Nat.le_trans hk1.size h2.size, hown, _, _, _, _, false, h1.grow hg, rfl, by rw [List.length_drop]; omega, (hk1.trans' h2).trans' (Keep.grow hg)⟩
end Go.Proofs.YtbbjeokecgnfpaaGreat
