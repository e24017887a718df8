/-
  The walks of mudlarkref01 (the document's answer for the sums): Bit, take, Update, One, Sum.
-/
import Derived.Test.YtcimkoehcdfjdaaGreatDoorBaseA
import Derived.Test.YtcimkoehcdfjdaaGreatDoorCrcA
namespace Go.Proofs.YtcimkoehcdfjdaaGreatDoor
open Go.RowKit CrcM

theorem rBit_any (s : W32) (b : Bool) (w : World) : Calls Tryz.prog 161 #[.int .u32 (s.toNat : Int), .bool b] w fun e w' => e = .returned (.int .u32 ((bitS s b).toNat : Int)) ∧ w = w' := by
 go_enter Tryz.func161, Tryz.ntmps161
 go_wp2
 ·go_ret
  exact ⟨ret_int (bit_yes s b (by assumption)), rfl⟩
 ·go_ret
  exact ⟨ret_int (bit_no s b (by assumption)), rfl⟩

theorem run_take_snoc (s : W32) (b : UInt8) (j : Nat) (hj : j < 8) : run s ((bitsOf b).take (j + 1)) = bitS (run s ((bitsOf b).take j)) (b.toNat.testBit j) := by
 have hl : j < (bitsOf b).length := by rw [bitsOf_length]; exact hj
 rw [List.take_succ_eq_append_getElem hl, run_append]
 have : (bitsOf b)[j] = b.toNat.testBit j := by simp [bitsOf]
 rw [this]
 rfl
theorem rBit_at (s s' : W32) (b : Bool) (w : World) (h : s' = bitS s b) : Calls Tryz.prog 161 #[.int .u32 (s.toNat : Int), .bool b] w fun e w' => e = .returned (.int .u32 (s'.toNat : Int)) ∧ w = w' := by
 rw [h]
 exact rBit_any s b w

set_option maxRecDepth 100000 in
set_option maxHeartbeats 1000000 in
theorem rtake_any (s : W32) (b : UInt8) (w : World) : Calls Tryz.prog 140 #[.int .u32 (s.toNat : Int), .int .u8 (b.toNat : Int)] w fun e w' => e = .returned (.int .u32 ((takeB s b).toNat : Int)) ∧ w = w' := by
 go_enter Tryz.func140, Tryz.ntmps140
 go_wp2
 go_loop [0, 1, 5] (fun v0 v1 v5 => ∃ k : Nat, k ≤ 8 ∧ v5 = .int .i64 (k : Int) ∧ v0 = .int .u32 ((run s ((bitsOf b).take k)).toNat : Int) ∧ v1 = .int .u8 (shrB b k : Int)) (fun _ _ v5 => 8 - (intOf v5).toNat)
 case atStart => exact ⟨0, by omega, rfl, rfl, by rw [shrB_zero]⟩
 case round =>
  obtain ⟨k, hk, rfl, rfl, rfl⟩ := hrel
  by_cases hlt : k < 8
  ·have hx := shrB_lt b k
   have hd := shrB_succ b k
   have ht := run_take_snoc s b k hlt
   have hbit := shrB_bit b k
   generalize shrB b k = x at *
   rw [hbit, ← and1_u8 x hx] at ht
   generalize run s ((bitsOf b).take k) = S at *
   generalize hS : run s ((bitsOf b).take (k + 1)) = S' at *
   have HS := Lib.hid hS
   clear hS
   have Hd := Lib.hid hd
   have Ht := Lib.hid ht
   have Hb := Lib.hid hbit
   clear hd ht hbit
   go_wp2_with fail
   refine (rBit_at S S' _ _ Ht.out).mono ?_
   rintro e w' ⟨rfl, rfl⟩
   go_wp2
   go_round
   case rel => exact ⟨k + 1, by omega, by go_num, by rw [HS.out], by rw [Hd.out]; rfl⟩
   case measure => simp [intOf]; omega
  ·obtain rfl : k = 8 := by omega
   go_wp2
   go_ret
   refine ⟨ret_int ?_, rfl⟩
   rw [List.take_of_length_le (by rw [bitsOf_length]; omega)]
   rfl

theorem rtake_at (s s' : W32) (b : UInt8) (w : World) (h : s' = takeB s b) : Calls Tryz.prog 140 #[.int .u32 (s.toNat : Int), .int .u8 (b.toNat : Int)] w fun e w' => e = .returned (.int .u32 (s'.toNat : Int)) ∧ w = w' := by
 rw [h]
 exact rtake_any s b w

set_option maxRecDepth 100000 in
set_option maxHeartbeats 1000000 in
theorem rUpdate_any (w : World) (B : Nat) (s : W32) (A : Option Addr) (n c : Nat) (l : List UInt8) (hR : BytesAt w B A n l) (hnc : n ≤ c) (hc : c ≤ maxLen) :
  Calls Tryz.prog 92 #[.int .u32 (s.toNat : Int), .slice A n c] w fun e w' => e = .returned (.int .u32 ((upd s l).toNat : Int)) ∧ w = w' := by
 unfold maxLen at hc
 go_enter Tryz.func92, Tryz.ntmps92
 go_wp2
 rw [not_w32]
 obtain ⟨S0, hS0⟩ : ∃ S0, S0 = ~~~s := ⟨_, rfl⟩
 rw [← hS0]
 have HS0 := Lib.hid hS0
 clear hS0
 go_loop [0, 5] (fun v0 v5 => ∃ k : Nat, k ≤ n ∧ v5 = .int .i64 (k : Int) ∧ v0 = .int .u32 (((l.take k).foldl takeB S0).toNat : Int)) (fun _ v5 => n - (intOf v5).toNat)
 case atStart => exact ⟨0, by omega, rfl, rfl⟩
 case round =>
  obtain ⟨k, hk, rfl, rfl⟩ := hrel
  by_cases hlt : k < n
  ·obtain ⟨b', off', rfl, hb', hc'⟩ := hR.at_ (by omega)
   obtain ⟨x, hx⟩ : ∃ x, l[k]? = some x := ⟨_, List.getElem?_eq_getElem (by rw [hR.len]; exact hlt)⟩
   have hcx : w.cell? ⟨b', off' + k, none⟩ = some (.int .u8 (x.toNat : Int)) := hc' k x hx
   have ht := foldl_take_succ S0 l k x hx
   generalize (l.take k).foldl takeB S0 = S at *
   generalize hS : (l.take (k + 1)).foldl takeB S0 = S' at *
   have HS := Lib.hid hS
   clear hS
   have Ht := Lib.hid ht
   clear ht hc' hx
   go_wp2_with fail
   refine (rtake_at S S' x _ Ht.out).mono ?_
   rintro e w' ⟨rfl, rfl⟩
   go_wp2
   go_round
   case rel => exact ⟨k + 1, by omega, by go_num, by rw [HS.out]⟩
   case measure => simp [intOf]; omega
  ·obtain rfl : k = n := by omega
   go_wp2
   go_ret
   rw [List.take_of_length_le (by rw [hR.len]; omega), HS0.out]
   exact ⟨ret_int (not_w32 _), rfl⟩

theorem rUpdate_zero (w : World) (B : Nat) (A : Option Addr) (n c : Nat) (l : List UInt8) (hR : BytesAt w B A n l) (hnc : n ≤ c) (hc : c ≤ maxLen) :
  Calls Tryz.prog 92 #[.int .u32 0, .slice A n c] w fun e w' => e = .returned (.int .u32 ((sum l).toNat : Int)) ∧ w = w' := rUpdate_any w B 0#32 A n c l hR hnc hc

theorem rOne_any (w : World) (B : Nat) (A : Option Addr) (n c : Nat) (l : List UInt8) (hR : BytesAt w B A n l) (hnc : n ≤ c) (hc : c ≤ maxLen) :
  Calls Tryz.prog 43 #[.slice A n c] w fun e w' => e = .returned (.int .u32 ((sum l).toNat : Int)) ∧ w = w' := by
 go_enter Tryz.func43, Tryz.ntmps43
 go_wp2_with fail
 refine (rUpdate_zero _ B A n c l hR hnc hc).mono ?_
 rintro e w' ⟨rfl, rfl⟩
 go_wp2
 go_ret
 exact ⟨rfl, rfl⟩

theorem flat_take_succ (ls : List (List UInt8)) (k : Nat) (l : List UInt8) (h : ls[k]? = some l) : (ls.take (k + 1)).flatten = (ls.take k).flatten ++ l := by
 rw [List.take_add_one, h]
 simp
structure SumInv (w : World) (ls : List (List UInt8)) (k : Nat) (T : List UInt8) (v : Value) (wr : World) : Prop where
 rows : T = (ls.take k).flatten
 own : wr.ownsRow w.heap.size 5 1 v T.length (T.map b8)
 below : Below w.heap.size w wr
theorem SumInv.next {w : World} {ls : List (List UInt8)} {k : Nat} {T : List UInt8} {v v' : Value} {wr w2 : World} {l : List UInt8} (h : SumInv w ls k T v wr) (hl : ls[k]? = some l)
  (hown : w2.ownsRow w.heap.size 5 1 v' (T.length + l.length) (T.map b8 ++ l.map b8)) (hg : wr.grownBy w2 v.ownBlock) : SumInv w ls (k + 1) (T ++ l) v' w2 := by
 refine ⟨by rw [flat_take_succ ls k l hl, h.rows], ?_, h.below.grown hg h.below.size (fun g e => (h.own.lt g e).1)⟩
 rw [List.length_append, List.map_append]
 exact hown

end Go.Proofs.YtcimkoehcdfjdaaGreatDoor
