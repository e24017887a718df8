/-
  The walks of wire's Reader.Fixed and Reader.Text.
  The walk of wire's Reader.Text.
-/
import Derived.Test.YtcimkoehcdfjdaaGreatDoorRNumber
namespace Go.Proofs.YtcimkoehcdfjdaaGreatDoor
open Go.RowKit WireM

theorem fixed_short (l : List UInt8) (bad : Bool) (h : bad = true ∨ l.length < 4) : fixed (stOf l bad) = (0, none) := by
 cases bad with
 | true => rfl
 | false =>
  match l, h with
  | [], _ => rfl
  | [_], _ => rfl
  | [_, _], _ => rfl
  | [_, _, _], _ => rfl
  | _ :: _ :: _ :: _ :: _, h => rcases h with h | h; cases h; simp at h; omega
theorem fixed_long (a b c d : UInt8) (l : List UInt8) : fixed (some (a :: b :: c :: d :: l)) = (a.toNat + 256 * b.toNat + 65536 * c.toNat + 16777216 * d.toNat, some l) := rfl
def little : List UInt8 → Nat
 | [] => 0
 | b :: l => b.toNat + 256 * little l
theorem little_snoc : ∀ (l : List UInt8) (b : UInt8), little (l ++ [b]) = little l + b.toNat * 2 ^ (8 * l.length)
 | [], b => by simp [little]
 | a :: l, b => by
  rw [List.cons_append, little, little, little_snoc l b, List.length_cons, show 8 * (l.length + 1) = 8 * l.length + 8 by omega, Nat.pow_add]
  have : b.toNat * (2 ^ (8 * l.length) * 2 ^ 8) = 256 * (b.toNat * 2 ^ (8 * l.length)) := by
   rw [show (2 : Nat) ^ 8 = 256 from rfl, Nat.mul_comm (2 ^ (8 * l.length)) 256, ← Nat.mul_assoc, Nat.mul_comm b.toNat 256, Nat.mul_assoc]
  omega
theorem little_lt : ∀ (l : List UInt8), little l < 2 ^ (8 * l.length)
 | [] => by simp [little]
 | a :: l => by
  rw [little, List.length_cons, show 8 * (l.length + 1) = 8 * l.length + 8 by omega, Nat.pow_add]
  have := little_lt l
  have h := a.toNat_lt
  omega
theorem join32 (acc k y : Nat) (hk : k < 4) (ha : acc < 2 ^ (8 * k)) (hy : y < 256) : bits BinOp.or IntKind.u32 (acc : Int) ((y : Int) % 4294967296 * 2 ^ (8 * k) % 4294967296) = ((acc + y * 2 ^ (8 * k) : Nat) : Int) := by
 have h1 : y * 2 ^ (8 * k) ≤ 255 * 2 ^ 24 := Nat.mul_le_mul (by omega) (Nat.pow_le_pow_right (by omega) (by omega))
 have h2 : 2 ^ (8 * k) ≤ 2 ^ 24 := Nat.pow_le_pow_right (by omega) (by omega)
 have e2 : (y : Int) * 2 ^ (8 * k) = ((y * 2 ^ (8 * k) : Nat) : Int) := by
  rw [Int.natCast_mul, Int.natCast_pow]
  rfl
 rw [Int.emod_eq_of_lt (show (0 : Int) ≤ (y : Int) by omega) (by omega), e2, Int.emod_eq_of_lt (by omega) (by omega), u32_or_nat _ _ (by omega) (by omega)]
 congr 1
 have h4 := Nat.two_pow_add_eq_or_of_lt ha y
 rw [Nat.or_comm, Nat.mul_comm, ← h4, Nat.add_comm]

set_option maxRecDepth 100000 in
set_option maxHeartbeats 4000000 in
theorem RFixed_any (w : World) (g : Nat) (A : Option Addr) (n c : Nat) (l : List UInt8) (bad : Bool) (h0 : Rd w g A n c l bad) :
  Calls Tryz.prog 93 #[.pointer (some ⟨g, 0, none⟩)] w fun e w' => e = .returned (.int .u32 ((fixed (stOf l bad)).1 : Nat)) ∧ RdAt w g (fixed (stOf l bad)).2 l.length w' := by
 have hlen := h0.len
 by_cases hs : bad = true ∨ l.length < 4
 ·rw [fixed_short l bad hs]
  have hs2 : bad = true ∨ n < 4 := by rw [← hlen]; exact hs
  clear hs
  go_enter Tryz.func93, Tryz.ntmps93
  go_wp2_with fail
  refine Calls.mono (show Calls _ _ #[_, .int .i64 ((4 : Nat) : Int)] _ _ from take_bad w g A n c l bad 4 h0 hs2) ?_
  rintro e w1 ⟨rfl, h1, h2⟩
  go_wp2_with fail
  go_loopw [2, 12] (fun v2 v12 wr => v2 = .int .u32 0 ∧ v12 = .int .i64 0 ∧ wr = w1) (fun _ _ _ => 0)
  case atStart => exact ⟨rfl, rfl, rfl⟩
  case round =>
   obtain ⟨rfl, rfl, rfl⟩ := hrel
   go_wp2
   go_ret
   exact ⟨ret_int (by rfl), A, n, c, l, true, h1, rfl, Nat.le_refl _, h2⟩
 ·have hb : bad = false := by cases bad; rfl; exact absurd (Or.inl rfl) hs
  subst hb
  have hl4 : 4 ≤ l.length := by omega
  obtain ⟨a, b, x, d, l1, rfl⟩ : ∃ a b x d l1, l = a :: b :: x :: d :: l1 := by
   match l, hl4 with
   | a :: b :: x :: d :: l1, _ => exact ⟨a, b, x, d, l1, rfl⟩
  have hn4 : 4 ≤ n := by omega
  obtain ⟨L, hL⟩ : ∃ L, L = [a, b, x, d] := ⟨_, rfl⟩
  have hfx : fixed (stOf (a :: b :: x :: d :: l1) false) = (little L, some l1) := by
   rw [stOf_false, fixed_long, hL]
   simp only [little]
   congr 1
   omega
  rw [hfx]
  have HL := Lib.hid hL
  clear hs hl4 hfx hL
  go_enter Tryz.func93, Tryz.ntmps93
  go_wp2_with fail
  refine Calls.mono (show Calls _ _ #[_, .int .i64 ((4 : Nat) : Int)] _ _ from take_any w g A n c (a :: b :: x :: d :: l1) 4 h0 hn4) ?_
  rintro e w1 ⟨rfl, h1, h2, h3⟩
  have h3' : BytesAt w1 w1.heap.size A 4 L := by rw [HL.out]; exact h3
  obtain ⟨bk, off, rfl, hbk, hcl⟩ := h3'.at_ (by omega)
  have Hcl := Lib.hid hcl
  have hLl : L.length = 4 := h3'.len
  have HLl := Lib.hid hLl
  clear h3 h3' hcl hLl hlen
  go_wp2_with fail
  go_loopw [2, 12] (fun v2 v12 wr => ∃ k : Nat, k ≤ 4 ∧ v12 = .int .i64 (k : Int) ∧ v2 = .int .u32 ((little (L.take k) : Nat) : Int) ∧ wr = w1) (fun _ v12 _ => 4 - (intOf v12).toNat)
  case atStart => exact ⟨0, by omega, rfl, rfl, rfl⟩
  case round =>
   obtain ⟨k, hk, rfl, rfl, rfl⟩ := hrel
   by_cases hk4 : k < 4
   ·obtain ⟨y, hy⟩ : ∃ y, L[k]? = some y := ⟨_, List.getElem?_eq_getElem (by rw [HLl.out]; exact hk4)⟩
    have hcy := Hcl.out k y hy
    have htl : (L.take k).length = k := by rw [List.length_take, HLl.out]; omega
    have hlt := little_lt (L.take k)
    rw [htl] at hlt
    have Hy := Lib.hid hy
    have Hv := Lib.hid (join32 (little (L.take k)) k y.toNat hk4 hlt y.toNat_lt)
    have Hs := Lib.hid (show little (L.take (k + 1)) = little (L.take k) + y.toNat * 2 ^ (8 * k) by rw [List.take_add_one, hy, show (some y).toList = [y] from rfl, little_snoc, htl])
    have hk8 : (8 * (k : Int)).toNat = 8 * k := by omega
    clear hy hlt htl
    go_wp2
    go_roundw
    case rel => exact ⟨k + 1, by omega, by go_num, by rw [Hs.out, ← Hv.out], trivial⟩
    case measure => simp [intOf]; omega
   ·obtain rfl : k = 4 := by omega
    have ht : L.take 4 = L := List.take_of_length_le (by rw [HLl.out]; omega)
    go_wp2
    go_ret
    exact ⟨ret_int (by rw [ht]), _, _, _, l1, false, h1, rfl, Nat.le_add_right l1.length 4, h2⟩
end Go.Proofs.YtcimkoehcdfjdaaGreatDoor

namespace Go.Proofs.YtcimkoehcdfjdaaGreatDoor
open Go.RowKit WireM

def textOf : Nat × St → List UInt8 × St
 | (_, none) => ([], none)
 | (n, some l) => if n ≤ l.length then (l.take n, some (l.drop n)) else ([], none)
theorem text_of (most : Int) (st : St) : text most st = textOf (num most st) := rfl

set_option maxRecDepth 100000 in
set_option maxHeartbeats 4000000 in
theorem RText_any (w : World) (g : Nat) (A : Option Addr) (n c : Nat) (l : List UInt8) (bad : Bool) (most : Int) (h0 : Rd w g A n c l bad) (hl : l.length ≤ 140737488355328) :
  Calls Tryz.prog 162 #[.pointer (some ⟨g, 0, none⟩), .int .i64 most] w fun e w' => ∃ r B, e = .returned r ∧ w.heap.size ≤ B ∧ w'.ownsRow B 5 1 r (text most (stOf l bad)).1.length ((text most (stOf l bad)).1.map b8) ∧ RdAt w g (text most (stOf l bad)).2 l.length w' := by
 obtain ⟨T, hT⟩ : ∃ T, T = text most (stOf l bad) := ⟨_, rfl⟩
 obtain ⟨N, hN⟩ : ∃ N, N = num most (stOf l bad) := ⟨_, rfl⟩
 have HT := Lib.hid (show T = textOf N by rw [hT, hN, text_of])
 rw [← hT]
 clear hT
 go_enter Tryz.func162, Tryz.ntmps162
 go_wp2_with fail
 have hnum := RNumber_any w g A n c l bad most h0
 rw [← hN] at hnum
 clear hN
 refine hnum.mono ?_
 rintro e w1 ⟨rfl, A1, n1, c1, l1, b1, hd1, hs1, hl1, hk1⟩
 clear hnum
 obtain ⟨m, st⟩ := N
 obtain rfl : stOf l1 b1 = st := hs1
 have hlen1 := hd1.len
 have hcm1 := hd1.cm
 have hnc1 := hd1.nc
 by_cases hs : b1 = true ∨ n1 < m
 ·have hTe : T = ([], none) := by
   rw [HT.out]
   cases b1 with
   | true => rfl
   | false =>
    have hlt : ¬ m ≤ l1.length := by rcases hs with h | h; cases h; omega
    rw [stOf_false, textOf, if_neg hlt]
  subst hTe
  clear HT
  go_wp2_with fail
  refine (take_bad w1 g A1 n1 c1 l1 b1 m hd1 hs).mono ?_
  rintro e w2 ⟨rfl, h1, h2⟩
  go_wp2_with fail
  refine (CloneBytes_any w2 w2.heap.size none 0 0 [] BytesAt.nil (Nat.le_refl _) (by omega)).mono ?_
  rintro e w3 ⟨r, rfl, hown, hg⟩
  go_wp2
  go_ret
  exact ⟨r, rfl, _, Nat.le_trans hk1.size h2.size, hown, A1, n1, c1, l1, true, h1.grow hg, rfl, hl1, (hk1.trans' h2).trans' (Keep.grow hg)⟩
 ·have hb : b1 = false := by cases b1; rfl; exact absurd (Or.inl rfl) hs
  subst hb
  have hm : m ≤ n1 := by omega
  have hTe : T = (l1.take m, some (l1.drop m)) := by
   rw [HT.out]
   rw [stOf_false, textOf, if_pos (by omega)]
  subst hTe
  clear HT hs
  go_wp2_with fail
  refine (take_any w1 g A1 n1 c1 l1 m hd1 hm).mono ?_
  rintro e w2 ⟨rfl, h1, h2, h3⟩
  go_wp2_with fail
  have hmx : m ≤ 140737488355328 := by omega
  refine (CloneBytes_any w2 w2.heap.size A1 m c1 (l1.take m) h3 (Nat.le_refl _) hmx).mono ?_
  rintro e w3 ⟨r, rfl, hown, hg⟩
  go_wp2
  go_ret
  rw [List.length_take, Nat.min_eq_left (by omega), List.map_take] at hown
  exact ⟨r, rfl, _, Nat.le_trans hk1.size h2.size, hown, _, _, _, _, false, h1.grow hg, rfl, by rw [List.length_drop]; omega, (hk1.trans' h2).trans' (Keep.grow hg)⟩
end Go.Proofs.YtcimkoehcdfjdaaGreatDoor
