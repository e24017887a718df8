/-
  The sum's steps in the walk's own spelling: numbers of 32 and 8 bits. No program is in sight.
  The walks of package crc, part 1: Bit; a byte's bits, gone through.
  The walk of crc.made: the table of what 0 becomes by each byte.
  The walk of crc's update: the sum goes on by the table over rows of bytes. Conditions: the table is the table.
  The walks of crc's Sum, Update, Table.
-/
import Derived.WalkKit
import Derived.Laws.BitsAllLaws
import Derived.Test.YtcimkoehcdfjdaaGreatDoorCrcMath
import Derived.Test.YtcimkoehcdfjdaaGreatDoorProg
import Derived.Outline
import Derived.Shelf.Abstract
import Derived.Shelf.RegionOpen
import Derived.OwnWalkIn
import Derived.TacticsInMore
import Derived.LoopNIn
import Derived.LoopIn
import Derived.Lib.Hide
import Derived.Test.YtcimkoehcdfjdaaGreatDoorRange
import Derived.Test.YtcimkoehcdfjdaaGreatDoorBaseA
import Derived.Test.YtcimkoehcdfjdaaGreatDoorMarks
import Derived.Test.YtcimkoehcdfjdaaGreatDoorBaseD
import Derived.Deep.LoopGhost
import Derived.Deep.QuietTactic
import Derived.BigQuiet
import Derived.WalkMore
import Derived.IntWalk
import Derived.Laws.Shifts
namespace Go.Proofs.YtcimkoehcdfjdaaGreatDoor
open Go.RowKit CrcM

theorem w32_lt (s : W32) : s.toNat < 4294967296 := s.isLt

theorem and1_u32 (x : Nat) (h : x < 4294967296) : (bits .and .u32 (x : Int) 1 == 1) = x.testBit 0 := by
 have e := u32_and_nat x 1 h (by omega)
 rw [show ((1 : Nat) : Int) = 1 from rfl] at e
 rw [e, Nat.and_one_is_mod, Nat.testBit_zero]
 rcases Nat.mod_two_eq_zero_or_one x with h | h <;> simp [h]

theorem shr1_w32 (s : W32) : ((s.toNat : Int) / (2 : Int)) = ((s >>> 1).toNat : Int) := by
 rw [BitVec.toNat_ushiftRight, Nat.shiftRight_eq_div_pow]; omega

theorem bit_yes (s : W32) (b : Bool) (h : (!(bits .and .u32 (s.toNat : Int) 1 == 1) == b) = true) : bits .xor .u32 ((s.toNat : Int) / 2) 3988292384 = ((bitS s b).toNat : Int) := by
 rw [and1_u32 _ (w32_lt s)] at h
 have e : bitS s b = (s >>> 1) ^^^ poly := by
  unfold bitS
  rw [if_pos]
  have : s.getLsbD 0 = s.toNat.testBit 0 := rfl
  rw [this]
  revert h
  cases s.toNat.testBit 0 <;> cases b <;> simp
 rw [e, shr1_w32, BitVec.toNat_xor, ← u32_xor_nat _ _ (w32_lt _) (w32_lt _)]
 rfl
theorem bit_no (s : W32) (b : Bool) (h : (!(bits .and .u32 (s.toNat : Int) 1 == 1) == b) = false) : ((s.toNat : Int) / 2) = ((bitS s b).toNat : Int) := by
 rw [and1_u32 _ (w32_lt s)] at h
 have e : bitS s b = s >>> 1 := by
  unfold bitS
  rw [if_neg]
  have : s.getLsbD 0 = s.toNat.testBit 0 := rfl
  rw [this]
  revert h
  cases s.toNat.testBit 0 <;> cases b <;> simp
 rw [e, shr1_w32]

theorem and1_u8 (x : Nat) (h : x < 256) : (bits .and .u8 (x : Int) 1 == 1) = x.testBit 0 := by
 have e := u8_and_nat x 1 h (by omega)
 rw [show ((1 : Nat) : Int) = 1 from rfl] at e
 rw [e, Nat.and_one_is_mod, Nat.testBit_zero]
 rcases Nat.mod_two_eq_zero_or_one x with h | h <;> simp [h]
def shrB (b : UInt8) (k : Nat) : Nat := b.toNat / 2 ^ k
theorem shrB_zero (b : UInt8) : shrB b 0 = b.toNat := by simp [shrB]
theorem shrB_succ (b : UInt8) (k : Nat) : shrB b (k + 1) = shrB b k / 2 := by simp [shrB, Nat.pow_succ, Nat.div_div_eq_div_mul]
theorem shrB_lt (b : UInt8) (k : Nat) : shrB b k < 256 := Nat.lt_of_le_of_lt (Nat.div_le_self _ _) b.toNat_lt
theorem shrB_bit (b : UInt8) (k : Nat) : b.toNat.testBit k = (shrB b k).testBit 0 := by
 rw [shrB, Nat.testBit_div_two_pow, Nat.zero_add]
theorem run_take_succ (b : UInt8) (j : Nat) (hj : j < 8) : run 0#32 ((bitsOf b).take (j + 1)) = bitS (run 0#32 ((bitsOf b).take j)) (b.toNat.testBit j) := by
 have hl : j < (bitsOf b).length := by rw [bitsOf_length]; exact hj
 rw [List.take_succ_eq_append_getElem hl, run_append]
 have : (bitsOf b)[j] = b.toNat.testBit j := by simp [bitsOf]
 rw [this]
 rfl
end Go.Proofs.YtcimkoehcdfjdaaGreatDoor

namespace Go.Proofs.YtcimkoehcdfjdaaGreatDoor
open Go.RowKit Go.Shelf CrcM
attribute [local go_sem] Oper.semAt_some

theorem Bit_any (s : W32) (b : Bool) (w : World) : Calls Tryz.prog 155 #[.int .u32 (s.toNat : Int), .bool b] w fun e w' => e = .returned (.int .u32 ((bitS s b).toNat : Int)) ∧ w = w' := by
 go_enter Tryz.func155, Tryz.ntmps155
 go_wp2
 ·go_ret
  exact ⟨ret_int (bit_yes s b (by assumption)), rfl⟩
 ·go_ret
  exact ⟨ret_int (bit_no s b (by assumption)), rfl⟩

theorem bits_any (b : Nat) (w : World) : Calls Tryz.prog 154 #[.int .u8 (b : Int)] w fun e w' => e = .returned (.func (.func 171) #[] #[.pointer (some ⟨w.heap.size, 0, none⟩)]) ∧ w.alloc (.cells #[.int .u8 (b : Int)] 5) = w' := by
 go_enter Tryz.func154, Tryz.ntmps154
 go_wp2
 go_ret
 exact ⟨rfl, rfl⟩

set_option maxHeartbeats 1000000 in
theorem bits1_any (F : Fence) (n : Nat) (hf : F.fn 171) (hro : F.round = none) (hn : 1 ≤ n) (l B : Nat) (b : UInt8) (J : Nat → World → Prop)
  (hJ : ∀ k W u, J k W → J k (W.setCell ⟨B, 0, none⟩ u))
  (hY : ∀ k W1, k < 8 → J k W1 → Boxed W1 B 5 (.int .u8 (shrB b k : Int)) → YieldAt F (n - 1) Tryz.prog l #[.bool (b.toNat.testBit k)] W1 fun e W' =>
   e = .returned (.bool true) ∧ J (k + 1) W' ∧ Boxed W' B 5 (.int .u8 (shrB b k : Int)))
  (W : World) (hB : Boxed W B 5 (.int .u8 (b.toNat : Int))) (h0 : J 0 W) :
  CallsIn F n Tryz.prog 171 #[.func (.yield l) #[] #[], .pointer (some ⟨B, 0, none⟩)] W fun e W' => (∃ v, e = .returned v) ∧ J 8 W' := by
 refine callsIn_of_wp Tryz.func171 rfl hf ?_ hro
 simp only [Tryz.ntmps171, List.size_toArray, List.length_cons, List.length_nil, Nat.reduceAdd, Nat.reduceSub, Array.replicate_succ, Array.replicate_zero, List.push_toArray, List.append_toArray, List.nil_append, List.cons_append]
 gi_wp2
 gi_loopw [3] (fun i wr => ∃ k : Nat, k ≤ 8 ∧ i = .int .i64 (k : Int) ∧ J k wr ∧ Boxed wr B 5 (.int .u8 (shrB b k : Int))) (fun i _ => 8 - (intOf i).toNat)
 case atStart => exact ⟨0, by omega, rfl, h0, by rw [shrB_zero]; exact hB⟩
 case round =>
  obtain ⟨k, hk, rfl, hj, hb⟩ := hrel
  by_cases hlt : k < 8
  ·obtain ⟨fn, tmps, assign, body, hy, hR⟩ := hY k wr hlt hj hb
   rw [shrB_bit] at hy
   have hx := shrB_lt b k
   have hd := shrB_succ b k
   generalize shrB b k = x at *
   rw [← and1_u8 x hx] at hy
   have hc := hb.cell
   have Hb := Lib.hid hb
   have Hd := Lib.hid hd
   clear hb hd hY
   gi_wp2
   refine hR.mono ?_
   rintro e W3 ⟨rfl, hJ3, hb3⟩
   have hc3 := hb3.cell
   have hf3 := hb3.frozen
   gi_wp2
   go_roundw
   case rel => exact ⟨k + 1, by omega, by go_num, hJ _ _ _ hJ3, by rw [Hd.out]; exact hb3.set _⟩
   case measure => simp [intOf]; omega
  ·obtain rfl : k = 8 := by omega
   gi_wp2
   go_end0
   exact ⟨⟨_, rfl⟩, hj⟩
end Go.Proofs.YtcimkoehcdfjdaaGreatDoor

namespace Go.Proofs.YtcimkoehcdfjdaaGreatDoor
open Go.RowKit Go.Shelf CrcM
attribute [local go_sem] Oper.semAt_some


set_option maxHeartbeats 1000000 in
structure MadeInv (w : World) (B l D bi k : Nat) (b : UInt8) (ms : List Nat) (rec : LoopState → Option Code → Loop) (z j : Nat) (W : World) : Prop where
 loop : W.heap[l]? = some (.loop (rec .ready none))
 defers : W.heap[D]? = some (.deferred (some []))
 index : Boxed W bi 3 (.int .i64 (k : Int))
 table : ∃ cs', Blk W B 176 cs' ∧ cs'.size = 256 ∧ ∀ i, i < 256 → cs'[i]? = some (.int .u32 ((if i = k then run 0#32 ((bitsOf b).take j) else if i < k then tab i else 0#32).toNat : Int))
 marks : Marks (B + 1) ms W
 below : Below B w W
 size : z ≤ W.heap.size

theorem MadeInv.step {w W w2 w' : World} {B l D bi bb k : Nat} {b : UInt8} {ms : List Nat} {rec : LoopState → Option Code → Loop} {z j : Nat} {v : Value} (h : MadeInv w B l D bi k b ms rec z j W) (hbox : Boxed W bb 5 v)
  (hg2 : W.grownBy w2 (some l)) (hg' : ((w2.setCell ⟨B, k, none⟩ (.int .u32 ((bitS (run 0#32 ((bitsOf b).take j)) (b.toNat.testBit j)).toNat : Int))).drew).grownBy w' (some l))
  (hl' : w'.heap[l]? = some (.loop (rec .ready none))) (hj : j < 8) (hk : k < 256) (h1 : B < bi) (h2 : B < bb) (h3 : bi < D) (h4 : bb < D) (h5 : D < l) (hms : ∀ m ∈ ms, m < bi) :
  MadeInv w B l D bi k b ms rec z (j + 1) w' ∧ Boxed w' bb 5 v := by
 obtain ⟨cs', ht, hsz, hcs⟩ := h.table
 have hlt := (Array.getElem?_eq_some_iff.1 h.loop).1
 have hz2 := hg2.size
 have keep : ∀ g, g ≠ B → g ≠ l → g < W.heap.size → w'.heap[g]? = W.heap[g]? := fun g hgB hgl hgW => by
  rw [hg'.block g (by show g < (w2.setCell _ _).heap.size; rw [size_setCell]; omega) (by simp; omega)]
  show (w2.setCell _ _).heap[g]? = _
  rw [heap_setCell_ne w2 hgB, hg2.block g hgW (by simp; omega)]
 have ht2 : Blk w2 B 176 cs' := ht.grown hg2 (by simp; omega)
 have ht3 : Blk w' B 176 (cs'.setIfInBounds k (.int .u32 ((bitS (run 0#32 ((bitsOf b).take j)) (b.toNat.testBit j)).toNat : Int))) :=
  Blk.grown (w := (w2.setCell ⟨B, k, none⟩ _).drew) (ht2.set k _) hg' (by simp; omega)
 refine ⟨⟨hl', ?_, ?_, ⟨_, ht3, by simpa using hsz, fun i hi => ?_⟩, h.marks.keep (fun m hm => keep m (by have := h.marks.ge m hm; omega) (by have := hms m hm; omega) (h.marks.lt hm)), ?_, ?_⟩, ?_⟩
 ·rw [keep D (by omega) (by omega) (Array.getElem?_eq_some_iff.1 h.defers).1]; exact h.defers
 ·exact (keep bi (by omega) (by omega) h.index.lt).trans h.index
 ·by_cases e : i = k
  ·subst e
   rw [if_pos rfl, run_take_succ b j hj]
   simp [hsz, hi]
  ·rw [if_neg e, Array.getElem?_setIfInBounds_ne (Ne.symm e), hcs i hi, if_neg e]
 ·have hBz := ht2.lt
  exact ((h.below.trans (below_grown1 hg2 (by have := ht.lt; omega) (by omega))).setCell (p := ⟨B, k, none⟩) (Nat.le_refl B) _).drew.trans
   (below_grown1 hg' (by show B ≤ (w2.setCell _ _).heap.size; rw [size_setCell]; omega) (by omega))
 ·have h6 := hg'.size
  have e : (w2.setCell ⟨B, k, none⟩ (.int .u32 ((bitS (run 0#32 ((bitsOf b).take j)) (b.toNat.testBit j)).toNat : Int))).drew.heap.size = w2.heap.size := size_setCell _ _ _
  rw [e] at h6
  have := h.size
  omega
 ·exact (keep bb (by omega) (by omega) hbox.lt).trans hbox

def tabV : Array Value := (Array.range 256).map fun i => .int .u32 ((tab i).toNat : Int)
theorem tabV_size : tabV.size = 256 := by simp [tabV]
theorem tabV_get (i : Nat) (h : i < 256) : tabV[i]? = some (.int .u32 ((tab i).toNat : Int)) := by simp [tabV, h]
theorem tabV_eq {cs : Array Value} (hz : cs.size = 256) (h : ∀ i, i < 256 → cs[i]? = some (.int .u32 ((tab i).toNat : Int))) : cs = tabV := by
 apply Array.ext_getElem?
 intro i
 by_cases hi : i < 256
 ·rw [h i hi, tabV_get i hi]
 ·rw [Array.getElem?_eq_none (by omega), Array.getElem?_eq_none (by rw [tabV_size]; omega)]
theorem tabV_one : tabV.all (·.oneCell') = true := by
 rw [Array.all_eq_true_iff_forall_mem]
 intro v hv
 obtain ⟨i, _, rfl⟩ := Array.mem_map.1 hv
 rfl

structure MadeOut (w : World) (k : Nat) (ms : List Nat) (wr : World) : Prop where
 table : ∃ cs, Blk wr w.heap.size 176 cs ∧ cs.size = 256 ∧ ∀ i, i < 256 → cs[i]? = some (.int .u32 ((if i < k then tab i else 0#32).toNat : Int))
 marks : Marks (w.heap.size + 1) ms wr
 below : Below w.heap.size w wr

theorem zero_table : Tryz.zeroCells176.size = 256 ∧ ∀ i, i < 256 → Tryz.zeroCells176[i]? = some (.int .u32 0) := by
 have h : Tryz.zeroCells176 = Array.replicate 256 (.int .u32 0) := by kernel_rfl
 rw [h]
 exact ⟨by simp, fun i hi => by simp [hi]⟩

theorem MadeOut.next {w W W3 : World} {l D bi k z : Nat} {b : UInt8} {ms : List Nat} {rec : LoopState → Option Code → Loop} (h : MadeInv w w.heap.size l D bi k b ms rec z 8 W) (hb : b.toNat = k)
  (hg : W.grownBy W3 (some l)) (hD : w.heap.size < D) (hDl : D < l) (hms : ∀ m ∈ ms, m < D) : MadeOut w (k + 1) (D :: ms) W3 := by
 obtain ⟨cs, ht, hz, hcs⟩ := h.table
 refine ⟨⟨cs, ht.grown hg (by simp; omega), hz, fun i hi => ?_⟩, ⟨List.nodup_cons.2 ⟨fun hin => by have := hms D hin; omega, h.marks.nodup⟩, fun m hm => ?_, fun m hm => ?_⟩, h.below.trans (below_grown1 hg h.below.size (by omega))⟩
 ·rw [hcs i hi]
  by_cases e : i = k
  ·have e8 : (bitsOf b).take 8 = bitsOf b := List.take_of_length_le (by rw [bitsOf_length]; omega)
   rw [if_pos e, if_pos (by omega), e8, e, tab, takeB, ← hb, UInt8.ofNat_toNat]
  ·rw [if_neg e]
   by_cases e2 : i < k
   ·rw [if_pos e2, if_pos (by omega)]
   ·rw [if_neg e2, if_neg (by omega)]
 ·rcases List.mem_cons.1 hm with rfl | hm
  ·omega
  ·exact h.marks.ge m hm
 ·rcases List.mem_cons.1 hm with rfl | hm
  ·rw [hg.block _ (Array.getElem?_eq_some_iff.1 h.defers).1 (by simp; omega)]; exact h.defers
  ·rw [hg.block _ (h.marks.lt hm) (by have := hms m hm; simp; omega)]; exact h.marks.opened m hm

set_option maxRecDepth 100000 in
set_option maxHeartbeats 1600000 in
theorem made_any (w : World) : Calls Tryz.prog 114 #[] w fun e w' => e = .returned (.agg tabV) ∧ Below w.heap.size w w' := by
 refine (callsIn_wide (n := 4)).1 ?_
 refine callsIn_of_wp_marks Tryz.func114 rfl trivial ?_ rfl
 simp only [Tryz.ntmps114, List.size_toArray, List.length_nil, Nat.reduceSub, Array.replicate_succ, Array.replicate_zero, List.push_toArray, List.append_toArray, List.nil_append, List.cons_append]
 gi_wp2
 refine wpIn_loop (fun a' wr => ∃ (k : Nat) (ms : List Nat) (v1 v2 v4 v5 v6 v7 v8 v9 v10 v11 v12 v13 v14 v15 v16 v17 : Value), k ≤ 256 ∧
   a' = { tmps := #[.pointer (some ⟨w.heap.size, 0, none⟩), v1, v2, .int .i64 (k : Int), v4, v5, v6, v7, v8, v9, v10, v11, v12, v13, v14, v15, v16, v17, undef], defers := ms.map markOf } ∧
   MadeOut w k ms wr)
  (fun a' _ => 256 - (intOf (a'.tmps.getD 3 undef)).toNat) ?start ?round
 case start =>
  refine ⟨0, [], undef, undef, undef, undef, undef, undef, undef, undef, undef, undef, undef, undef, undef, undef, undef, undef, by omega, rfl, ⟨_, Blk.new _ _ _, zero_table.1, fun i hi => ?_⟩, Marks.nil _ _, (Below.refl _ _).alloc (Nat.le_refl _) _⟩
  rw [zero_table.2 i hi]
  rfl
 case round =>
  rintro a' wr ⟨k, ms, v1, v2, v4, v5, v6, v7, v8, v9, v10, v11, v12, v13, v14, v15, v16, v17, hk, rfl, hO⟩
  have hlt : w.heap.size < wr.heap.size := by obtain ⟨cs, ht, _⟩ := hO.table; exact ht.lt
  have hm := hO.marks
  have hbel := hO.below
  by_cases hkl : k < 256
  ·gi_wp2_with (refine ⟨trivial, ?_⟩; gi_at_call 154; refine (callsIn_wide.2 (bits_any k _)).mono ?_; rintro e w' ⟨rfl, rfl⟩)
   obtain ⟨W0, hW0⟩ : ∃ W0, (wr.alloc (.cells #[.int .i64 (k : Int)] 3)).alloc (.cells #[.int .u8 (k : Int)] 5) = W0 := ⟨_, rfl⟩
   have hz0 : wr.heap.size + 2 ≤ W0.heap.size := by rw [← hW0]; simp
   have hbi0 : Boxed W0 wr.heap.size 3 (.int .i64 (k : Int)) := by rw [← hW0]; exact (Boxed.new _ _ _).alloc _
   have hbb0 : Boxed W0 (wr.heap.size + 1) 5 (.int .u8 (k : Int)) := by rw [← hW0]; have := Boxed.new (wr.alloc (.cells #[.int .i64 (k : Int)] 3)) 5 (.int .u8 (k : Int)); simpa using this
   have hk0 : ∀ j, j < wr.heap.size → W0.heap[j]? = wr.heap[j]? := fun j hj => by rw [← hW0, Below.heap_alloc _ _ _ (by simp; omega), Below.heap_alloc _ _ _ hj]
   have hbel0 : Below w.heap.size w W0 := by rw [← hW0]; exact (hbel.alloc (by omega) _).alloc (by simp; omega) _
   rw [hW0]
   clear hW0
   obtain ⟨b, Hb⟩ : ∃ b : UInt8, Hid (b.toNat = k) := ⟨UInt8.ofNat k, Lib.hid (by rw [UInt8.toNat_ofNat', Nat.mod_eq_of_lt hkl])⟩
   refine rangeJ rfl (by omega) (gf := 171) (lb := #[.pointer (some ⟨wr.heap.size + 1, 0, none⟩)]) rfl trivial (enters_of Tryz.func171 (by kernel_rfl) rfl) ?_
   intro fn rec W1 _ hrec hg1 hz1 hD1 hl1
   refine (bits1_any Fence.wide 3 trivial rfl (by omega) (W0.heap.size + 1) (wr.heap.size + 1) b
    (MadeInv w w.heap.size (W0.heap.size + 1) W0.heap.size wr.heap.size k b ms rec W1.heap.size)
    ?stab ?rounds W1 ?box ?start).mono ?_
   case stab =>
    rintro j W u ⟨h1, h2, h3, ⟨cs', h4, h5, h6⟩, h7, h8, h9⟩
    refine ⟨(heap_setCell_ne W (by omega) _ _).trans h1, (heap_setCell_ne W (by omega) _ _).trans h2, (Blk.far h3 (by simp) _), ⟨cs', h4.far (by simp; omega) _, h5, h6⟩, h7.keep (fun m hm' => heap_setCell_ne W (by have := hm.lt hm'; omega) _ _), h8.setCell (by simp; omega) _, by rw [size_setCell]; exact h9⟩
   case box => rw [Hb.out]; exact Blk.grown hbb0 hg1 (by simp)
   case start =>
    obtain ⟨cs, hT, hsz, hcs⟩ := hO.table
    have hg0 : ∀ g, g < wr.heap.size → W1.heap[g]? = wr.heap[g]? := fun g hg => (hg1.block g (by omega) (by simp)).trans (hk0 g hg)
    refine ⟨hl1, hD1, Blk.grown hbi0 hg1 (by simp), ⟨cs, hT.kept (hg0 _ hlt), hsz, fun i hi => ?_⟩, hm.keep (fun m hm' => hg0 m (hm.lt hm')), hbel0.trans (below_grown hg1 (by omega) (by simp)), Nat.le_refl _⟩
    rw [hcs i hi]
    by_cases e : i = k
    ·subst e; simp [run]
    ·rw [if_neg e]
   case rounds =>
    rintro j W hj ⟨h1, h2, h3, ⟨cs', h4, h5, h6⟩, h7, h8, h9⟩ hbox
    refine yieldJ trivial hrec h1 rfl ?_
    gi_wp2
    refine roundBody.mk h1 fun w2 hg2 hl2 => ?_
    have hci : w2.cell? ⟨wr.heap.size, 0, none⟩ = some (.int .i64 (k : Int)) := (h3.kept hg2 (by simp; omega)).cell
    have h42 : Blk w2 w.heap.size 176 cs' := h4.grown hg2 (by simp; omega)
    have hct : w2.cell? ⟨w.heap.size, k, none⟩ = some (.int .u32 ((run 0#32 ((bitsOf b).take j)).toNat : Int)) := by rw [h42.cell, h6 k hkl, if_pos rfl]
    have hft : w2.frozen? ⟨w.heap.size, k, none⟩ = false := h42.frozen _
    have hmx : Tryz.prog.follows .mixedOrders = true := by kernel_rfl
    have H6 := Lib.hid h6
    clear h6
    gi_wp2
    gi_region_with_o (refine ⟨trivial, ?_⟩; gi_at_call 155; refine (CallsIn.inRound _ (callsIn_wide.2 (Bit_any _ _ _))).mono ?_; rintro e w' ⟨rfl, rfl⟩)
    all_goals gi_wp2
    all_goals
     refine roundEnd.on ((heap_setCell_ne w2 (by omega) _ _).trans hl2) fun w' hg' hl' => ⟨rfl, ?_⟩
     exact MadeInv.step ⟨h1, h2, h3, ⟨cs', h4, h5, H6.out⟩, h7, h8, h9⟩ hbox hg2 hg' hl' hj hkl (by omega) (by omega) (by omega) (by omega) (by omega) (fun m hm' => hm.lt hm')
   rintro e W2 ⟨⟨v, rfl⟩, hI⟩
   refine ⟨v, .ready, none, rfl, by simp, hI.loop, fun W3 hg3 => ?_⟩
   have hN : MadeOut w (k + 1) (W0.heap.size :: ms) W3 := MadeOut.next hI Hb.out hg3 (by omega) (by omega) (fun m hm' => by have := hm.lt hm'; omega)
   gi_wp2
   exact ⟨⟨k + 1, W0.heap.size :: ms, _, _, _, _, _, _, _, _, _, _, _, _, _, _, _, _, by omega, rfl, hN⟩, by simp [intOf]; omega⟩
  ·obtain rfl : k = 256 := by omega
   obtain ⟨cs, ht, hz, hcs⟩ := hO.table
   obtain rfl : cs = tabV := tabV_eq hz (fun i hi => by rw [hcs i hi, if_pos hi])
   have hi : (Tryz.prog.info? 176).map (·.size) = some tabV.size := by rw [tabV_size]; kernel_rfl
   clear hcs hz
   gi_wp2_with (first | (refine wpListIn_load_row rfl 176 _ rfl w.heap.size rfl 176 tabV (0, 0) _ ht Tryz.underlying176 rfl hi ?_) | (refine wpListIn_store_row rfl 176 _ _ rfl w.heap.size tabV rfl rfl 176 tabV ht hi rfl tabV_one ?_))
   have ht2 := ht.setRow tabV
   refine leaves_marks (by simp) (B := w.heap.size + 1) ms _ (hm.keep fun m hm' => setRow_other _ _ _ _ (by have := hm.ge m hm'; omega)) fun w' ho => ?_
   have ht3 : Blk w' w.heap.size 176 tabV := (ho.block _ (fun hin => by have := hm.ge _ hin; omega)).trans ht2
   exact ⟨_, results_cell_row rfl _ _ _ _ _ _ _ rfl ht3 Tryz.underlying176 rfl hi, rfl, (below_setRow1 hbel (Nat.le_refl _) _).trans (ho.below fun m hm' => by have := hm.ge m hm'; omega)⟩
end Go.Proofs.YtcimkoehcdfjdaaGreatDoor

namespace Go.Proofs.YtcimkoehcdfjdaaGreatDoor
open Go.RowKit CrcM

theorem not_w32 (s : W32) : bits BinOp.xor IntKind.u32 IntKind.u32.max (s.toNat : Int) = ((~~~s).toNat : Int) := by
 have e := u32_xor_nat 4294967295 s.toNat (by omega) (w32_lt s)
 have hm : IntKind.u32.max = ((4294967295 : Nat) : Int) := by decide
 rw [hm, e]
 have h2 : ~~~s = 4294967295#32 ^^^ s := by
  apply BitVec.eq_of_getLsbD_eq
  intro i hi
  have h1 : (4294967295#32).getLsbD i = true := by
   rw [show (4294967295#32 : W32) = BitVec.allOnes 32 from rfl, BitVec.getLsbD_allOnes]; simpa using hi
  simp only [BitVec.getLsbD_not, BitVec.getLsbD_xor, h1, hi, decide_true, Bool.true_and, Bool.true_xor]
 rw [h2, BitVec.toNat_xor]
 rfl

theorem tab_index (S : W32) (x : UInt8) : ∃ i : Nat, i < 256 ∧ bits BinOp.xor IntKind.u8 ((S.toNat : Int) % 256) (x.toNat : Int) = (i : Int) ∧
  bits BinOp.xor IntKind.u32 ((tab i).toNat : Int) ((S.toNat : Int) / 256) = ((takeB S x).toNat : Int) := by
 have hlt : (S.toNat % 256) ^^^ x.toNat < 256 := Nat.xor_lt_two_pow (n := 8) (Nat.mod_lt _ (by omega)) x.toNat_lt
 refine ⟨(S.toNat % 256) ^^^ x.toNat, hlt, ?_, ?_⟩
 ·have e := u8_xor_nat (S.toNat % 256) x.toNat (Nat.mod_lt _ (by omega)) x.toNat_lt
  rw [← e]
  rfl
 ·have e2 : (S >>> 8).toNat = S.toNat / 256 := by rw [BitVec.toNat_ushiftRight, Nat.shiftRight_eq_div_pow]
  have e := u32_xor_nat (tab ((S.toNat % 256) ^^^ x.toNat)).toNat (S.toNat / 256) (w32_lt _) (by have := w32_lt S; omega)
  rw [takeB_tab, BitVec.toNat_xor, e2, ← e]
  rfl
theorem foldl_take_succ (a : W32) (l : List UInt8) (j : Nat) (x : UInt8) (h : l[j]? = some x) : (l.take (j + 1)).foldl takeB a = takeB ((l.take j).foldl takeB a) x := by
 rw [List.take_add_one, h]
 simp [List.foldl_append]

def accL (s : W32) (ls : List (List UInt8)) (k : Nat) : W32 := (ls.take k).flatten.foldl takeB (~~~s)
theorem accL_zero (s : W32) (ls : List (List UInt8)) : accL s ls 0 = ~~~s := by simp [accL]
theorem accL_succ (s : W32) (ls : List (List UInt8)) (k : Nat) (l : List UInt8) (h : ls[k]? = some l) : accL s ls (k + 1) = l.foldl takeB (accL s ls k) := by
 unfold accL
 rw [List.take_add_one, h]
 simp [List.foldl_append]
theorem accL_all (s : W32) (ls : List (List UInt8)) : ~~~(accL s ls ls.length) = upd s ls.flatten := by simp [accL, upd]

set_option maxRecDepth 100000 in
set_option maxHeartbeats 1000000 in
theorem update_any (w : World) (T B : Nat) (s : W32) (A : Option Addr) (n c : Nat) (ls : List (List UInt8)) (hT : Blk w T 176 tabV) (hR : RowsAt w B A n ls) (hn : n ≤ maxLen) :
  Calls Tryz.prog 115 #[.pointer (some ⟨T, 0, none⟩), .int .u32 (s.toNat : Int), .slice A n c] w fun e w' => e = .returned (.int .u32 ((upd s ls.flatten).toNat : Int)) ∧ ∃ q, w.drewN q = w' := by
 unfold maxLen at hn
 go_enter Tryz.func115, Tryz.ntmps115
 go_wp2; go_step3; go_wp2; go_step3; go_wp2
 rw [not_w32]
 go_loopw [1, 7, 8] (fun v1 v7 v8 wr => ∃ k q : Nat, k ≤ n ∧ v1 = .int .u32 ((accL s ls k).toNat : Int) ∧ v7 = .int .i64 (k : Int) ∧ v8 = .int .i64 0 ∧ w.drewN q = wr) (fun _ v7 _ _ => n - (intOf v7).toNat)
 case atStart => exact ⟨0, 0, by omega, by rw [accL_zero], rfl, rfl, rfl⟩
 case round =>
  obtain ⟨k, q, hk, rfl, rfl, rfl, rfl⟩ := hrel
  by_cases hkn : k < n
  ·obtain ⟨b, off, rfl, hb, hc⟩ := hR.2 (by omega)
   obtain ⟨l, hl⟩ : ∃ l, ls[k]? = some l := ⟨_, List.getElem?_eq_getElem (by rw [hR.1]; exact hkn)⟩
   obtain ⟨A', m, c', hcell, hm1, hm2, hrow⟩ := hc k l hl
   unfold maxLen at hm2
   have Hl := Lib.hid hl
   clear hl hc
   go_wp2
   go_loopw [1, 7, 8] (fun v1 v7 v8 wr => ∃ j q : Nat, (j < m ∨ (j = 0 ∧ m = 0)) ∧ v1 = .int .u32 (((l.take j).foldl takeB (accL s ls k)).toNat : Int) ∧ v7 = .int .i64 (k : Int) ∧ v8 = .int .i64 (j : Int) ∧ w.drewN q = wr) (fun _ _ v8 _ => m - (intOf v8).toNat)
   case atStart => exact ⟨0, q, by omega, rfl, rfl, rfl, rfl⟩
   case round =>
    obtain ⟨j, q2, hj, rfl, rfl, rfl, rfl⟩ := hrel
    by_cases hjm : j < m
    ·obtain ⟨b', off', rfl, hb', hc'⟩ := hrow.at_ (by omega)
     obtain ⟨x, hx⟩ : ∃ x, l[j]? = some x := ⟨_, List.getElem?_eq_getElem (by rw [hrow.len]; exact hjm)⟩
     have hcx : w.cell? ⟨b', off' + j, none⟩ = some (.int .u8 (x.toNat : Int)) := hc' j x hx
     have Hx := Lib.hid hx
     clear hc' hx
     go_wp2
     generalize hS : (l.take j).foldl takeB (accL s ls k) = S
     have HS := Lib.hid hS
     clear hS
     obtain ⟨i, hi, hidx, hstep⟩ := tab_index S x
     have hct : w.cell? ⟨T, i, none⟩ = some (.int .u32 ((tab i).toNat : Int)) := by rw [hT.cell]; exact tabV_get i hi
     go_quiet (fail)
     clear hidx hct hstep
     rcases (show j + 1 = m ∨ j + 1 < m from by omega) with hje | hje
     ·have hb1 : (((j : Int) + 1) == (m : Int)) = true := by rw [beq_iff_eq]; omega
      have Hje := Lib.hid hje
      clear hje
      go_wp2
      go_roundw
      case rel =>
       refine ⟨k + 1, _, by omega, ?_, by go_num, rfl, rfl⟩
       rw [accL_succ s ls k l Hl.out, ← List.take_of_length_le (l := l) (i := j + 1) (by rw [hrow.len]; have := Hje.out; omega), foldl_take_succ _ _ _ _ Hx.out, HS.out]
      case measure => simp [intOf]; omega
     ·have hb1 : (((j : Int) + 1) == (m : Int)) = false := by rw [beq_eq_false_iff_ne]; omega
      go_wp2
      go_roundw
      case rel => exact ⟨j + 1, _, .inl hje, by rw [foldl_take_succ _ _ _ _ Hx.out, HS.out], rfl, by go_num, rfl⟩
      case measure => simp [intOf]; omega
    ·obtain ⟨rfl, rfl⟩ : j = 0 ∧ m = 0 := by omega
     go_wp2
     go_roundw
     case rel => exact ⟨k + 1, _, by omega, by rw [accL_succ s ls k l Hl.out, List.eq_nil_of_length_eq_zero hrow.len]; rfl, by go_num, rfl, rfl⟩
     case measure => simp [intOf]; omega
  ·obtain rfl : k = n := by omega
   go_wp2
   try rw [Exit.noGoto_ret]
   go_ret
   rw [← accL_all, hR.1]
   exact ⟨ret_int (not_w32 _), q, rfl⟩
end Go.Proofs.YtcimkoehcdfjdaaGreatDoor

namespace Go.Proofs.YtcimkoehcdfjdaaGreatDoor
open Go.RowKit CrcM

theorem info_table : (Tryz.prog.info? 176).map (·.size) = some tabV.size := by rw [tabV_size]; kernel_rfl

theorem update_zero (w : World) (T B : Nat) (A : Option Addr) (n c : Nat) (ls : List (List UInt8)) (hT : Blk w T 176 tabV) (hR : RowsAt w B A n ls) (hn : n ≤ maxLen) :
  Calls Tryz.prog 115 #[.pointer (some ⟨T, 0, none⟩), .int .u32 0, .slice A n c] w fun e w' => e = .returned (.int .u32 ((sum ls.flatten).toNat : Int)) ∧ ∃ q, w.drewN q = w' :=
 update_any w T B 0#32 A n c ls hT hR hn

theorem below_drewN {B : Nat} {a w : World} (h : Below B a w) (n : Nat) : Below B a (w.drewN n) := ⟨h.os, h.tape, h.output, h.size, h.block⟩

set_option maxRecDepth 100000 in
theorem Sum_any (w : World) (B : Nat) (A : Option Addr) (n c : Nat) (ls : List (List UInt8)) (hR : RowsAt w B A n ls) (hB : B ≤ w.heap.size) (hn : n ≤ maxLen) :
  Calls Tryz.prog 66 #[.slice A n c] w fun e w' => e = .returned (.int .u32 ((sum ls.flatten).toNat : Int)) ∧ Below w.heap.size w w' := by
 go_enter Tryz.func66, Tryz.ntmps66
 go_wp2_with (first | (go_at_call 114; refine (made_any _).mono ?_; rintro e w1 ⟨rfl, hb1⟩) | (refine wpList_store_row rfl 176 _ _ rfl w1.heap.size tabV rfl rfl 176 Tryz.zeroCells176 (Blk.new _ _ _) info_table (by rw [tabV_size]; exact zero_table.1) tabV_one ?_) | (go_at_call 115; refine (update_zero _ w1.heap.size B A n c ls ((Blk.new w1 176 Tryz.zeroCells176).setRow tabV) (hR.below ((below_setRow1 (hb1.alloc hb1.size _) hb1.size _).mono hB)) hn).mono ?_; rintro e w2 ⟨rfl, q, rfl⟩))
 go_ret
 exact ⟨rfl, below_drewN (below_setRow1 (hb1.alloc hb1.size _) hb1.size _) q⟩

theorem Sum_new (W : World) (B : Nat) (A : Option Addr) (n c : Nat) (l : List UInt8) (hR : BytesAt W B A n l) (hB : B ≤ W.heap.size) (hnc : n ≤ c) (hc : c ≤ maxLen) :
  Calls Tryz.prog 66 #[.slice (some ⟨W.heap.size, 0, none⟩) 1 1] (W.alloc (.cells #[.slice A n c] 28)) fun e w' => e = .returned (.int .u32 ((sum l).toNat : Int)) ∧ Below W.heap.size W w' := by
 have hb : Below W.heap.size W (W.alloc (.cells #[.slice A n c] 28)) := (Below.refl _ _).alloc (Nat.le_refl _) _
 refine (Sum_any _ (W.heap.size + 1) _ 1 1 [l] (RowsAt.one (Blk.new W 28 #[.slice A n c]).cells (by omega) ((hR.below (hb.mono hB)).more (by omega)) hnc hc) (by simp) (by unfold maxLen; omega)).mono ?_
 rintro e w2 ⟨rfl, h2⟩
 exact ⟨by simp, hb.trans (h2.mono (by simp))⟩

end Go.Proofs.YtcimkoehcdfjdaaGreatDoor
