/-
  The document's reader in memory: bytes, a place, and a mark that says whether it has failed. The walks of next and Left.
  The walk of the document's Reader.Number.
  The walk of the document's Reader.Fixed.
  The walk of the document's Reader.Text.
  The walk of the document's Reader.Rising.
-/
import Derived.BigQuiet
import Derived.Deep.QuietTactic
import Derived.Test.YtcimkoehcdfjdaaGreatDoorBaseG
import Derived.Deep.LoopGhost
import Derived.Deep.DeepCutAuto
import Derived.Deep.CutRange
import Derived.Test.YtcimkoehcdfjdaaGreatDoorRNumber
import Derived.Test.YtcimkoehcdfjdaaGreatDoorBaseF
import Derived.Test.YtcimkoehcdfjdaaGreatDoorWireRise
import Derived.Test.YtcimkoehcdfjdaaGreatDoorWRising
namespace Go.Proofs.YtcimkoehcdfjdaaGreatDoor
open Go.RowKit WireM

structure Rdd (w : World) (g : Nat) (A : Option Addr) (n c : Nat) (L : List UInt8) (at_ : Nat) (bad : Bool) : Prop where
 cell : Blk w g 167 #[.slice A n c, .int .i64 (at_ : Int), .bool bad]
 reads : BytesAt w w.heap.size A n L
 apart : 0 < n → ∀ ad, A = some ad → ad.block ≠ g
 nc : n ≤ c
 cm : c ≤ maxLen
 le : at_ ≤ n
def ddSt (L : List UInt8) (at_ : Nat) (bad : Bool) : St := if bad then none else some (L.drop at_)
def RddAt (w : World) (g : Nat) (A : Option Addr) (n c : Nat) (L : List UInt8) (st : St) (w' : World) : Prop := ∃ at_ bad, Rdd w' g A n c L at_ bad ∧ ddSt L at_ bad = st ∧ Keep (Own1 g) w w'
section
variable {w w1 : World} {g : Nat} {A : Option Addr} {n c : Nat} {L : List UInt8} {at_ : Nat} {bad : Bool}
theorem Rdd.len (h : Rdd w g A n c L at_ bad) : L.length = n := h.reads.len
theorem Rdd.kept (h : Rdd w g A n c L at_ bad) {S : Nat → Prop} (hk : Keep S w w1) (h1 : ¬ S g) (h2 : 0 < n → ∀ ad, A = some ad → ¬ S ad.block) : Rdd w1 g A n c L at_ bad :=
 ⟨hk.blk h.cell h1, ReadsAt.more (hk.reads' h.reads (Nat.le_refl _) h2) hk.size, h.apart, h.nc, h.cm, h.le⟩
theorem Rdd.grow (h : Rdd w g A n c L at_ bad) (hg : Grow w w1) : Rdd w1 g A n c L at_ bad := h.kept (S := fun _ => False) (Keep.grow hg) (fun h => h) (fun _ _ _ h => h)
theorem Rdd.mark (h : Rdd w g A n c L at_ bad) (b : Bool) : Rdd (w.setCell ⟨g, 2, none⟩ (.bool b)) g A n c L at_ b ∧ Keep (Own1 g) w (w.setCell ⟨g, 2, none⟩ (.bool b)) := by
 have hk : Keep (Own1 g) w (w.setCell ⟨g, 2, none⟩ (.bool b)) := Keep.setCell w ⟨g, 2, none⟩ (.bool b)
 refine ⟨⟨?_, ReadsAt.more (hk.reads' h.reads (Nat.le_refl _) fun h0 ad e => h.apart h0 ad e) hk.size, h.apart, h.nc, h.cm, h.le⟩, hk⟩
 have := h.cell.set 2 (.bool b)
 simpa using this
theorem Rdd.go (h : Rdd w g A n c L at_ bad) (k : Nat) (hk : k ≤ n) : Rdd (w.setCell ⟨g, 1, none⟩ (.int .i64 (k : Int))) g A n c L k bad ∧ Keep (Own1 g) w (w.setCell ⟨g, 1, none⟩ (.int .i64 (k : Int))) := by
 have hkp : Keep (Own1 g) w (w.setCell ⟨g, 1, none⟩ (.int .i64 (k : Int))) := Keep.setCell w ⟨g, 1, none⟩ _
 refine ⟨⟨?_, ReadsAt.more (hkp.reads' h.reads (Nat.le_refl _) fun h0 ad e => h.apart h0 ad e) hkp.size, h.apart, h.nc, h.cm, hk⟩, hkp⟩
 have := h.cell.set 1 (.int .i64 (k : Int))
 simpa using this
end
def nextOf : St → Nat × St
 | some (b :: l) => (b.toNat, some l)
 | _ => (0, none)

set_option maxRecDepth 100000 in
set_option maxHeartbeats 2000000 in
theorem dnext_any (w : World) (g : Nat) (A : Option Addr) (n c : Nat) (L : List UInt8) (at_ : Nat) (bad : Bool) (h : Rdd w g A n c L at_ bad) :
  Calls Tryz.prog 144 #[.pointer (some ⟨g, 0, none⟩)] w fun e w' => e = .returned (.int .i64 ((nextOf (ddSt L at_ bad)).1 : Nat)) ∧ RddAt w g A n c L (nextOf (ddSt L at_ bad)).2 w' := by
 have hc0 := h.cell.cell 0
 have hc1 := h.cell.cell 1
 have hc2 := h.cell.cell 2
 have hf := h.cell.frozen
 have hcm := h.cm
 have hnc := h.nc
 have hle := h.le
 unfold maxLen at hcm
 obtain ⟨r, hr⟩ : ∃ r, r = nextOf (ddSt L at_ bad) := ⟨_, rfl⟩
 rw [← hr]
 have Hr := Lib.hid hr
 have Hf := Lib.hid hf
 clear hr hf
 cases bad with
 | true =>
  have hm := h.mark true
  have HM := Lib.hid hm
  have hf2 := Hf.out 2
  clear h hm
  go_enter Tryz.func144, Tryz.ntmps144
  go_wp2_with fail
  go_quiet (fail)
  go_wp2
  go_ret
  refine ⟨ret_int (by rw [Hr.out]; rfl), at_, true, HM.out.1.grow (Grow.drewN _ _), by rw [Hr.out]; rfl, HM.out.2.trans' (Keep.grow (Grow.drewN _ _))⟩
 | false =>
  by_cases hlt : at_ < n
  ·have hlen := h.len
   obtain ⟨x, hx⟩ : ∃ x, L[at_]? = some x := ⟨_, List.getElem?_eq_getElem (by omega)⟩
   obtain ⟨b, off, rfl, hb, hcl⟩ := h.reads.at_ (by omega)
   have hcx := hcl at_ x hx
   have hbg := h.apart (by omega) _ rfl
   have hd1 : ddSt L at_ false = some (x :: L.drop (at_ + 1)) := by
    have e : L.drop at_ = x :: L.drop (at_ + 1) := by
     obtain ⟨h1, h2⟩ := List.getElem?_eq_some_iff.1 hx
     rw [List.drop_eq_getElem_cons h1, h2]
    show some (L.drop at_) = _
    rw [e]
   have hgo : ∀ q, Rdd ((w.drewN q).setCell ⟨g, 1, none⟩ (.int .i64 ((at_ : Int) + 1))) g (some ⟨b, off, none⟩) n c L (at_ + 1) false ∧ Keep (Own1 g) w ((w.drewN q).setCell ⟨g, 1, none⟩ (.int .i64 ((at_ : Int) + 1))) := fun q => ⟨((h.grow (Grow.drewN w q)).go (at_ + 1) (by omega)).1, (Keep.grow (Grow.drewN w q)).trans' ((h.grow (Grow.drewN w q)).go (at_ + 1) (by omega)).2⟩
   have Hgo := Lib.hid hgo
   have Hd1 := Lib.hid hd1
   have hf1 := Hf.out 1
   have hx256 : x.toNat < 256 := x.toNat_lt
   have d1 : decide ((n : Int) ≤ (at_ : Int)) = false := decide_eq_false (by omega)
   have d2 : decide (n ≤ at_) = false := decide_eq_false (by omega)
   have w1 : IntKind.i64.wrap ((at_ : Int) + 1 - 1) = (at_ : Int) := by rw [show (at_ : Int) + 1 - 1 = (at_ : Int) by omega]; exact IntWalk.i64_in _ (by omega)
   clear h hcl hx hgo hd1
   go_enter Tryz.func144, Tryz.ntmps144
   go_wp2_with fail
   go_quiet (fail)
   go_wp2_with fail
   go_quiet (fail)
   go_wp2
   go_ret
   refine ⟨ret_int (by rw [Hr.out, Hd1.out]; rfl), at_ + 1, false, (Hgo.out _).1.grow (Grow.drewN _ _), by rw [Hr.out, Hd1.out]; rfl, (Hgo.out _).2.trans' (Keep.grow (Grow.drewN _ _))⟩
  ·obtain rfl : at_ = n := by omega
   have hm := h.mark true
   have HM := Lib.hid hm
   have hf2 := Hf.out 2
   have hdr : ddSt L at_ false = some [] := by
    show some (L.drop at_) = _
    rw [List.drop_eq_nil_iff.2 (by rw [h.len]; exact Nat.le_refl _)]
   have Hdr := Lib.hid hdr
   clear h hm hdr
   go_enter Tryz.func144, Tryz.ntmps144
   go_wp2_with fail
   go_quiet (fail)
   go_wp2
   go_ret
   refine ⟨ret_int (by rw [Hr.out, Hdr.out]; rfl), at_, true, HM.out.1.grow (Grow.drewN _ _), by rw [Hr.out, Hdr.out]; rfl, HM.out.2.trans' (Keep.grow (Grow.drewN _ _))⟩

theorem dd_left (L : List UInt8) (at_ : Nat) : left (ddSt L at_ false) = L.length - at_ := by
 show (L.drop at_).length = _
 exact List.length_drop
set_option maxRecDepth 100000 in
set_option maxHeartbeats 2000000 in
theorem dLeft_any (w : World) (g : Nat) (A : Option Addr) (n c : Nat) (L : List UInt8) (at_ : Nat) (bad : Bool) (h : Rdd w g A n c L at_ bad) :
  Calls Tryz.prog 103 #[.pointer (some ⟨g, 0, none⟩)] w fun e w' => e = .returned (.int .i64 (left (ddSt L at_ bad) : Nat)) ∧ ∃ q, w.drewN q = w' := by
 have hc0 := h.cell.cell 0
 have hc1 := h.cell.cell 1
 have hc2 := h.cell.cell 2
 have hcm := h.cm
 have hnc := h.nc
 have hle := h.le
 have hlen := h.len
 unfold maxLen at hcm
 obtain ⟨r, hr⟩ : ∃ r, r = left (ddSt L at_ bad) := ⟨_, rfl⟩
 rw [← hr]
 have Hr := Lib.hid hr
 clear hr h
 cases bad with
 | true =>
  go_enter Tryz.func103, Tryz.ntmps103
  go_wp2
  go_ret
  exact ⟨ret_int (by rw [Hr.out]; rfl), 0, rfl⟩
 | false =>
  have w1 : IntKind.i64.wrap ((n : Int) - (at_ : Int)) = (n : Int) - (at_ : Int) := IntWalk.i64_in _ (by omega)
  go_enter Tryz.func103, Tryz.ntmps103
  go_wp2_with fail
  go_quiet (fail)
  go_wp2
  go_ret
  exact ⟨ret_int (by rw [Hr.out, dd_left, hlen]; omega), _, rfl⟩
end Go.Proofs.YtcimkoehcdfjdaaGreatDoor

namespace Go.Proofs.YtcimkoehcdfjdaaGreatDoor
open Go.RowKit WireM

structure DNum (w : World) (g : Nat) (A : Option Addr) (n c : Nat) (L : List UInt8) (st0 : St) (j acc : Nat) (W : World) : Prop where
 rd : ∃ at_ bad, Rdd W g A n c L at_ bad ∧ rdS st0 = (ddSt L at_ bad).bind fun l => (WireM.rd (7 * j) l).map fun p => (acc + p.1, p.2)
 keep : Keep (Own1 g) w W
 j6 : j ≤ 6
 acc : acc < 2 ^ (7 * j)
theorem ddSt_none {L : List UInt8} {at_ : Nat} {bad : Bool} (h : ddSt L at_ bad = none) : bad = true := by
 cases bad with
 | true => rfl
 | false => cases h
theorem ddSt_some {L l : List UInt8} {at_ : Nat} {bad : Bool} (h : ddSt L at_ bad = some l) : bad = false ∧ L.drop at_ = l := by
 cases bad with
 | true => cases h
 | false =>
  injection h with h
  exact ⟨rfl, h⟩
theorem join_val2 (acc s x : Nat) (hs : s ≤ 35) (ha : acc < 2 ^ s) : wrap64 ((acc : Int) + wrap64 ((x : Int) % 128 * 2 ^ s)) = ((acc + x % 128 * 2 ^ s : Nat) : Int) := by
 have h2 := join_lt s x hs
 have h3 : 2 ^ s ≤ 2 ^ 35 := Nat.pow_le_pow_right (by omega) hs
 have e2 : (x : Int) % 128 * 2 ^ s = ((x % 128 * 2 ^ s : Nat) : Int) := by
  rw [Int.natCast_mul, Int.natCast_pow]
  rfl
 rw [e2]
 generalize x % 128 * 2 ^ s = Y at *
 rw [IntWalk.wrap64_in (Y : Int) (by omega), IntWalk.wrap64_in _ (by omega)]
 omega

set_option maxRecDepth 100000 in
set_option maxHeartbeats 4000000 in
theorem dNumber_any (w : World) (g : Nat) (A : Option Addr) (n c : Nat) (L : List UInt8) (at0 : Nat) (bad0 : Bool) (most : Int) (h0 : Rdd w g A n c L at0 bad0) :
  Calls Tryz.prog 100 #[.pointer (some ⟨g, 0, none⟩), .int .i64 most] w fun e w' => e = .returned (.int .i64 ((num most (ddSt L at0 bad0)).1 : Nat)) ∧ RddAt w g A n c L (num most (ddSt L at0 bad0)).2 w' := by
 obtain ⟨r, hr⟩ : ∃ r, r = num most (ddSt L at0 bad0) := ⟨_, rfl⟩
 rw [← hr]
 have Hr := Lib.hid hr
 clear hr
 obtain ⟨st0, hst0⟩ : ∃ st0, st0 = ddSt L at0 bad0 := ⟨_, rfl⟩
 rw [← hst0] at Hr
 have hS0 : DNum w g A n c L st0 0 0 w := ⟨⟨at0, bad0, h0, by rw [← hst0]; unfold rdS; cases st0 <;> simp⟩, Keep.refl _ _, by omega, by simp⟩
 have fail : ∀ W at_, Rdd W g A n c L at_ true → Keep (Own1 g) w W → rdS st0 = none → (.returned (.int .i64 0) : Ending) = .returned (.int .i64 (r.1 : Nat)) ∧ RddAt w g A n c L r.2 W := fun W at_ h hk h1 => by
  rw [Hr.out, num_none h1]
  exact ⟨rfl, at_, true, h, rfl, hk⟩
 have Fail := Lib.hid fail
 clear fail hst0 h0
 go_enter Tryz.func100, Tryz.ntmps100
 go_wp2
 go_loopw [5, 6] (fun v5 v6 wr => ∃ j acc : Nat, v5 = .int .i64 (acc : Int) ∧ v6 = .int .i64 ((7 * j : Nat) : Int) ∧ DNum w g A n c L st0 j acc wr) (fun _ v6 _ => 49 - (intOf v6).toNat)
 case atStart => exact ⟨0, 0, rfl, rfl, hS0⟩
 case round =>
  clear hS0
  obtain ⟨j, acc, rfl, rfl, hI⟩ := hrel
  obtain ⟨⟨at_, bad, hd, he⟩, hkw, hj6, hacc⟩ := hI
  have He := Lib.hid he
  clear he
  obtain ⟨s, hs⟩ : ∃ s, s = 7 * j := ⟨_, rfl⟩
  rw [← hs]
  have Hs := Lib.hid hs
  have hs42 : s ≤ 42 := by omega
  clear hs
  have hnx := dnext_any wr g A n c L at_ bad hd
  obtain ⟨st, hst⟩ : ∃ st, st = ddSt L at_ bad := ⟨_, rfl⟩
  rw [← hst] at hnx He
  clear hst hd
  by_cases hn : ∃ x l, st = some (x :: l)
  ·obtain ⟨x, l, rfl⟩ := hn
   rw [nextOf] at hnx
   have Hnx := Lib.hid hnx
   clear hnx
   have hxl : x.toNat < 256 := x.toNat_lt
   go_wp2_with fail
   refine Hnx.out.mono ?_
   rintro e w1 ⟨rfl, at1, bad1, hd1, hs1, hk1⟩
   obtain ⟨rfl, hs2⟩ := ddSt_some hs1
   have hc2 := hd1.cell.cell 2
   have hf2 := hd1.cell.frozen 2
   have hkx := hkw.trans' hk1
   have hm := hd1.mark true
   have Hm := Lib.hid hm
   have hkm := hkx.trans' hm.2
   have Hrd := Lib.hid (show rdS st0 = (if 35 < s ∨ (0 < s ∧ x.toNat = 0) then none else if x.toNat < 128 then some (x.toNat * 2 ^ s, l) else (WireM.rd (s + 7) l).map fun p => (x.toNat % 128 * 2 ^ s + p.1, p.2)).map fun p => (acc + p.1, p.2) by
    rw [He.out, Option.bind, ← Hs.out, WireM.rd])
   clear hm hkw hk1
   by_cases h35 : 35 < s
   ·have hz := Lib.hid (show rdS st0 = none by rw [Hrd.out, if_pos (Or.inl h35)]; rfl)
    have d1 : decide ((35 : Int) < (s : Int)) = true := decide_eq_true (by omega)
    go_wp2
    go_ret
    exact Fail.out _ _ Hm.out.1 hkm hz.out
   ·have d1 : decide ((35 : Int) < (s : Int)) = false := decide_eq_false (by omega)
    by_cases hx0 : x.toNat = 0
    ·by_cases hs0 : 0 < s
     ·have hz := Lib.hid (show rdS st0 = none by rw [Hrd.out, if_pos (Or.inr ⟨hs0, hx0⟩)]; rfl)
      have d2 : decide ((0 : Int) < (s : Int)) = true := decide_eq_true (by omega)
      have d3 : ((x.toNat : Int) == 0) = true := by simp [hx0]
      have Hx0 := Lib.hid hx0
      clear hx0
      go_wp2
      go_ret
      exact Fail.out _ _ Hm.out.1 hkm hz.out
     ·have d2 : decide ((0 : Int) < (s : Int)) = false := decide_eq_false (by omega)
      have d3 : ((x.toNat : Int) == 0) = true := by simp [hx0]
      have hok : ¬ (35 < s ∨ (0 < s ∧ x.toNat = 0)) := by omega
      clear hx0
      have hrd2 := Lib.hid (show rdS st0 = (if x.toNat < 128 then some (x.toNat * 2 ^ s, l) else (WireM.rd (s + 7) l).map fun p => (x.toNat % 128 * 2 ^ s + p.1, p.2)).map fun p => (acc + p.1, p.2) by rw [Hrd.out, if_neg hok])
      have hacc2 : acc < 2 ^ s := by rw [Hs.out]; exact hacc
      have Hv := Lib.hid (join_val2 acc s x.toNat (by omega) hacc2)
      have hj := join_lt s x.toNat (by omega)
      have hp35 : 2 ^ s ≤ 2 ^ 35 := Nat.pow_le_pow_right (by omega) (by omega)
      obtain ⟨N, hN⟩ : ∃ N, N = acc + x.toNat % 128 * 2 ^ s := ⟨_, rfl⟩
      have hNlt : N < 8796093022208 := by omega
      have HN := Lib.hid hN
      have Hac := Lib.hid hacc2
      clear hN hj hp35 hacc2 hacc
      have hst7 : (s : Int).toNat = s := by omega
      by_cases hx : x.toNat < 128
      ·have hxi : (x.toNat : Int) < 128 := by omega
       have Hsome := Lib.hid (show rdS st0 = some (N, l) by rw [hrd2.out, if_pos hx, HN.out, Nat.mod_eq_of_lt hx]; rfl)
       clear hx
       go_upto_region 9 with (fail)
       rw [Hv.out, ← HN.out]
       by_cases h1 : (N : Int) ≤ most
       ·have d4 : decide (most < (N : Int)) = false := decide_eq_false (by omega)
        by_cases h2 : N ≤ 1099511627776
        ·have d5 : decide ((1099511627776 : Int) < (N : Int)) = false := decide_eq_false (by omega)
         have hnum := Lib.hid (show r = (N, some l) by rw [Hr.out, num_some Hsome.out, if_pos (by simp only [maxNum]; omega)])
         go_wp2
         go_ret
         rw [hnum.out]
         exact ⟨rfl, at1, false, hd1, by show some (L.drop at1) = _; rw [hs2], hkx⟩
        ·have d5 : decide ((1099511627776 : Int) < (N : Int)) = true := decide_eq_true (by omega)
         have hnum := Lib.hid (show r = (0, none) by rw [Hr.out, num_some Hsome.out, if_neg (by simp only [maxNum]; omega)])
         go_wp2
         go_ret
         rw [hnum.out]
         exact ⟨rfl, at1, true, Hm.out.1, rfl, hkm⟩
       ·have d4 : decide (most < (N : Int)) = true := decide_eq_true (by omega)
        have hnum := Lib.hid (show r = (0, none) by rw [Hr.out, num_some Hsome.out, if_neg (by simp only [maxNum]; omega)])
        go_wp2
        go_ret
        rw [hnum.out]
        exact ⟨rfl, at1, true, Hm.out.1, rfl, hkm⟩
      ·have hxi : ¬ (x.toNat : Int) < 128 := by omega
       go_wp2
       rw [Hv.out, ← HN.out]
       go_roundw
       case rel =>
        have hs := Hs.out
        refine ⟨j + 1, N, rfl, by rw [hs]; go_num, ⟨⟨at1, false, hd1, ?_⟩, hkx, by omega, ?_⟩⟩
        ·rw [hrd2.out, if_neg hx, HN.out]
         show _ = (some (L.drop at1)).bind _
         rw [hs2, Option.bind, show 7 * (j + 1) = s + 7 by omega, Option.map_map]
         congr 1
         funext p
         simp [Nat.add_assoc]
        ·have h5 : x.toNat % 128 * 2 ^ s ≤ 127 * 2 ^ s := Nat.mul_le_mul_right _ (by omega)
         have h6 : 2 ^ (7 * (j + 1)) = 128 * 2 ^ s := by rw [show 7 * (j + 1) = 7 + s by omega, Nat.pow_add]
         have h7 := Hac.out
         rw [HN.out]
         omega
       case measure => simp [intOf]; omega
    ·have d3 : ((x.toNat : Int) == 0) = false := by rw [beq_eq_false_iff_ne]; omega
     have hok : ¬ (35 < s ∨ (0 < s ∧ x.toNat = 0)) := by omega
     clear hx0
     have hrd2 := Lib.hid (show rdS st0 = (if x.toNat < 128 then some (x.toNat * 2 ^ s, l) else (WireM.rd (s + 7) l).map fun p => (x.toNat % 128 * 2 ^ s + p.1, p.2)).map fun p => (acc + p.1, p.2) by rw [Hrd.out, if_neg hok])
     have hacc2 : acc < 2 ^ s := by rw [Hs.out]; exact hacc
     have Hv := Lib.hid (join_val2 acc s x.toNat (by omega) hacc2)
     have hj := join_lt s x.toNat (by omega)
     have hp35 : 2 ^ s ≤ 2 ^ 35 := Nat.pow_le_pow_right (by omega) (by omega)
     obtain ⟨N, hN⟩ : ∃ N, N = acc + x.toNat % 128 * 2 ^ s := ⟨_, rfl⟩
     have hNlt : N < 8796093022208 := by omega
     have HN := Lib.hid hN
     have Hac := Lib.hid hacc2
     clear hN hj hp35 hacc2 hacc
     have hst7 : (s : Int).toNat = s := by omega
     by_cases hx : x.toNat < 128
     ·have hxi : (x.toNat : Int) < 128 := by omega
      have Hsome := Lib.hid (show rdS st0 = some (N, l) by rw [hrd2.out, if_pos hx, HN.out, Nat.mod_eq_of_lt hx]; rfl)
      clear hx
      go_upto_region 9 with (fail)
      rw [Hv.out, ← HN.out]
      by_cases h1 : (N : Int) ≤ most
      ·have d4 : decide (most < (N : Int)) = false := decide_eq_false (by omega)
       by_cases h2 : N ≤ 1099511627776
       ·have d5 : decide ((1099511627776 : Int) < (N : Int)) = false := decide_eq_false (by omega)
        have hnum := Lib.hid (show r = (N, some l) by rw [Hr.out, num_some Hsome.out, if_pos (by simp only [maxNum]; omega)])
        go_wp2
        go_ret
        rw [hnum.out]
        exact ⟨rfl, at1, false, hd1, by show some (L.drop at1) = _; rw [hs2], hkx⟩
       ·have d5 : decide ((1099511627776 : Int) < (N : Int)) = true := decide_eq_true (by omega)
        have hnum := Lib.hid (show r = (0, none) by rw [Hr.out, num_some Hsome.out, if_neg (by simp only [maxNum]; omega)])
        go_wp2
        go_ret
        rw [hnum.out]
        exact ⟨rfl, at1, true, Hm.out.1, rfl, hkm⟩
      ·have d4 : decide (most < (N : Int)) = true := decide_eq_true (by omega)
       have hnum := Lib.hid (show r = (0, none) by rw [Hr.out, num_some Hsome.out, if_neg (by simp only [maxNum]; omega)])
       go_wp2
       go_ret
       rw [hnum.out]
       exact ⟨rfl, at1, true, Hm.out.1, rfl, hkm⟩
     ·have hxi : ¬ (x.toNat : Int) < 128 := by omega
      go_wp2
      rw [Hv.out, ← HN.out]
      go_roundw
      case rel =>
       have hs := Hs.out
       refine ⟨j + 1, N, rfl, by rw [hs]; go_num, ⟨⟨at1, false, hd1, ?_⟩, hkx, by omega, ?_⟩⟩
       ·rw [hrd2.out, if_neg hx, HN.out]
        show _ = (some (L.drop at1)).bind _
        rw [hs2, Option.bind, show 7 * (j + 1) = s + 7 by omega, Option.map_map]
        congr 1
        funext p
        simp [Nat.add_assoc]
       ·have h5 : x.toNat % 128 * 2 ^ s ≤ 127 * 2 ^ s := Nat.mul_le_mul_right _ (by omega)
        have h6 : 2 ^ (7 * (j + 1)) = 128 * 2 ^ s := by rw [show 7 * (j + 1) = 7 + s by omega, Nat.pow_add]
        have h7 := Hac.out
        rw [HN.out]
        omega
      case measure => simp [intOf]; omega
  ·have hz : nextOf st = (0, none) ∧ rdS st0 = none := by
    match st, hn with
    | none, _ => exact ⟨rfl, by rw [He.out]; rfl⟩
    | some [], _ => exact ⟨rfl, by rw [He.out]; rfl⟩
    | some (x :: l), hn => exact absurd ⟨x, l, rfl⟩ hn
   rw [hz.1] at hnx
   have Hnx := Lib.hid hnx
   have Hz := Lib.hid hz.2
   clear hnx hz hn
   go_wp2_with fail
   refine Hnx.out.mono ?_
   rintro e w1 ⟨rfl, at1, bad1, hd1, hs1, hk1⟩
   obtain rfl := ddSt_none hs1
   have hc2 := hd1.cell.cell 2
   have hf2 := hd1.cell.frozen 2
   have hm := hd1.mark true
   have Hm := Lib.hid hm
   have hkm := (hkw.trans' hk1).trans' hm.2
   clear hm
   go_wp2
   go_ret
   exact Fail.out _ _ Hm.out.1 hkm Hz.out
end Go.Proofs.YtcimkoehcdfjdaaGreatDoor

namespace Go.Proofs.YtcimkoehcdfjdaaGreatDoor
open Go.RowKit WireM

def stN : St → Nat → St
 | none, _ => none
 | some l, k => if k ≤ l.length then some (l.drop k) else none
def byteN (l : List UInt8) (k : Nat) : Nat := match l[k]? with
 | some x => x.toNat
 | none => 0
theorem stN_zero (st : St) : stN st 0 = st := by cases st <;> simp [stN]
def byteS (st : St) (k : Nat) : Nat := match stN st k with
 | none => 0
 | some _ => byteN (told st) k
theorem stN_next (st : St) (k : Nat) : nextOf (stN st k) = (byteS st k, stN st (k + 1)) := by
 cases st with
 | none => rfl
 | some l =>
  unfold byteS
  by_cases h : k ≤ l.length
  ·have e : stN (some l) k = some (l.drop k) := if_pos h
   rw [e]
   by_cases h2 : k < l.length
   ·have e2 : stN (some l) (k + 1) = some (l.drop (k + 1)) := if_pos h2
    rw [e2, List.drop_eq_getElem_cons h2, nextOf]
    simp only [byteN, told, List.getElem?_eq_getElem h2]
   ·have e2 : stN (some l) (k + 1) = none := if_neg (by omega)
    obtain rfl : k = l.length := by omega
    rw [e2, List.drop_length]
    simp only [nextOf, byteN, told, List.getElem?_eq_none (Nat.le_refl _)]
  ·have e : stN (some l) k = none := if_neg h
   have e2 : stN (some l) (k + 1) = none := if_neg (by omega)
   rw [e, e2]
   rfl
theorem byteS_lt (st : St) (k : Nat) : byteS st k < 256 := by
 unfold byteS
 split
 ·omega
 ·unfold byteN
  split
  ·exact UInt8.toNat_lt _
  ·omega
theorem byteS_some {st : St} {k : Nat} (h : stN st k ≠ none) : byteS st k = byteN (told st) k := by
 unfold byteS
 split
 ·rename_i h2
  exact absurd h2 h
 ·rfl
theorem little_take (l : List UInt8) (k : Nat) : little (l.take (k + 1)) = little (l.take k) + byteN l k * 2 ^ (8 * k) := by
 unfold byteN
 cases h : l[k]? with
 | none =>
  rw [List.take_add_one, h]
  simp
 | some x =>
  have hk := (List.getElem?_eq_some_iff.1 h).1
  rw [List.take_add_one, h, show (some x).toList = [x] from rfl, little_snoc, List.length_take, Nat.min_eq_left (by omega)]
theorem fixed_stN (st : St) : fixed st = match stN st 4 with
 | none => (0, none)
 | some l => (little ((told st).take 4), some l) := by
 match st with
 | none => rfl
 | some [] | some [_] | some [_, _] | some [_, _, _] => rfl
 | some (a :: b :: c :: d :: l) =>
  have h : stN (some (a :: b :: c :: d :: l)) 4 = some l := by simp [stN]
  rw [h, fixed_long]
  simp only [told, List.take_succ_cons, List.take_zero, little]
  congr 1
  omega

set_option maxRecDepth 100000 in
set_option maxHeartbeats 4000000 in
theorem dFixed_any (w : World) (g : Nat) (A : Option Addr) (n c : Nat) (L : List UInt8) (at0 : Nat) (bad0 : Bool) (h0 : Rdd w g A n c L at0 bad0) :
  Calls Tryz.prog 101 #[.pointer (some ⟨g, 0, none⟩)] w fun e w' => e = .returned (.int .u32 ((fixed (ddSt L at0 bad0)).1 : Nat)) ∧ RddAt w g A n c L (fixed (ddSt L at0 bad0)).2 w' := by
 obtain ⟨r, hr⟩ : ∃ r, r = fixed (ddSt L at0 bad0) := ⟨_, rfl⟩
 rw [← hr]
 obtain ⟨st0, hst0⟩ : ∃ st0, st0 = ddSt L at0 bad0 := ⟨_, rfl⟩
 rw [← hst0] at hr
 have Hr := Lib.hid hr
 have Hst0 := Lib.hid hst0
 clear hr hst0
 go_enter Tryz.func101, Tryz.ntmps101
 go_wp2
 go_loopw [3, 4] (fun v3 v4 wr => ∃ (k acc at_ : Nat) (bad : Bool), k ≤ 4 ∧ v4 = .int .i64 (k : Int) ∧ v3 = .int .u32 (acc : Int) ∧ acc < 2 ^ (8 * k) ∧ Rdd wr g A n c L at_ bad ∧ Keep (Own1 g) w wr ∧ Hid (ddSt L at_ bad = stN st0 k) ∧ Hid (stN st0 k ≠ none → acc = little ((told st0).take k))) (fun _ v4 _ => 4 - (intOf v4).toNat)
 case atStart => exact ⟨0, 0, at0, bad0, by omega, rfl, rfl, by simp, h0, Keep.refl _ _, by show _ = _; rw [stN_zero]; exact Hst0.out.symm, fun _ => by simp [little]⟩
 case round =>
  clear h0
  obtain ⟨k, acc, at_, bad, hk, rfl, rfl, hacc, hd, hkw, hst, hac⟩ := hrel
  by_cases hk4 : k < 4
  ·have hnx := dnext_any wr g A n c L at_ bad hd
   rw [hst.out, stN_next] at hnx
   obtain ⟨y, hy⟩ : ∃ y, y = byteS st0 k := ⟨_, rfl⟩
   have hyl : y < 256 := by rw [hy]; exact byteS_lt _ _
   rw [← hy] at hnx
   have Hnx := Lib.hid hnx
   have Hy := Lib.hid hy
   have Hj := Lib.hid (join32 acc k y hk4 hacc hyl)
   have hacc2 : acc + y * 2 ^ (8 * k) < 2 ^ (8 * (k + 1)) := by
    rw [show 8 * (k + 1) = 8 + 8 * k by omega, Nat.pow_add]
    have : y * 2 ^ (8 * k) ≤ 255 * 2 ^ (8 * k) := Nat.mul_le_mul_right _ (by omega)
    omega
   have Hacc2 := Lib.hid hacc2
   have hk8 : (8 * (k : Int)).toNat = 8 * k := by omega
   clear hnx hy hd hacc hacc2
   go_wp2_with fail
   refine Hnx.out.mono ?_
   rintro e w1 ⟨rfl, at1, bad1, hd1, hs1, hk1⟩
   have Hs1 := Lib.hid hs1
   clear hs1
   go_wp2
   go_roundw
   case rel =>
    refine ⟨k + 1, acc + y * 2 ^ (8 * k), at1, bad1, by omega, by go_num, ?_, Hacc2.out, hd1, hkw.trans' hk1, Hs1, ?_⟩
    ·rw [← Hj.out, Int.emod_eq_of_lt (show (0 : Int) ≤ (y : Int) by omega) (by omega)]
    ·intro hne
     have hne0 : stN st0 k ≠ none := fun h => by
      apply hne
      cases st0 with
      | none => rfl
      | some l =>
       simp only [stN] at h ⊢
       split at h
       ·cases h
       ·rw [if_neg (by omega)]
     rw [little_take, hac.out hne0, Hy.out, byteS_some hne0]
   case measure => simp [intOf]; omega
  ·obtain rfl : k = 4 := by omega
   have hc2 := hd.cell.cell 2
   cases bad with
   | true =>
    have hz : stN st0 4 = none := by rw [← hst.out]; rfl
    have hrr : r = (0, none) := by rw [Hr.out, fixed_stN, hz]
    have Hrr := Lib.hid hrr
    clear hz hrr
    go_wp2
    go_ret
    rw [Hrr.out]
    exact ⟨rfl, at_, true, hd, rfl, hkw⟩
   | false =>
    have hz : stN st0 4 = some (L.drop at_) := by rw [← hst.out]; rfl
    have hrr : r = (acc, some (L.drop at_)) := by rw [Hr.out, fixed_stN, hz, hac.out (by rw [hz]; simp)]
    have Hrr := Lib.hid hrr
    clear hz hrr
    go_wp2
    go_ret
    rw [Hrr.out]
    exact ⟨rfl, at_, false, hd, rfl, hkw⟩
end Go.Proofs.YtcimkoehcdfjdaaGreatDoor

namespace Go.Proofs.YtcimkoehcdfjdaaGreatDoor
open Go.RowKit WireM

section
variable {P : Program} {w : World} {t e : TypeId} {z : Value} {size bytes : Nat}
theorem run_cut_mid2 (T : AppTy P t e z size bytes) (A : Option Addr) (n c lo hi : Nat) (kl kh : IntKind) (i j : Int) (hi1 : i = (lo : Int)) (hj : j = (hi : Int)) (hk : lo ≤ hi) (hk2 : hi ≤ c) (w : World) : (Instr.slice t (.slice A n c) (some (.int kl i)) (some (.int kh j)) none).run P w = .ok (.slice (cutA A c lo size) (hi - lo) (c - lo)) w := by
 obtain ⟨inf, h1, _, hs, _⟩ := T.info
 subst hi1 hj
 have h0 : (0 : Int) ≤ (lo : Int) := by omega
 have h0' : (0 : Int) ≤ (hi : Int) := by omega
 simp [Instr.slice, Instr.sliceBounds, Instr.sliceBound, asIntOf, run_underlying T.ht, sizeOf, typeInfo, h1, hs, h0, h0', hk, hk2, Sem.run_bind, Sem.run_pure, Result.andThen, cutA]
theorem step_cut_mid2 {o : Oper} {a' : Act} {w1 : World} {K : Act → World → Prop} {Q : Exit → Act → World → Prop} (T : AppTy P t e z size bytes) {s h h2 : Nat} (ho : o.op = .slice t (.tmp s) (some (.tmp h)) (some (.tmp h2)) none) {A : Option Addr} {n c : Nat} {kl kh : IntKind} {i j : Int} (q1 : a'.tmps[s]? = some (.slice A n c)) (q2 : a'.tmps[h]? = some (.int kl i)) (q3 : a'.tmps[h2]? = some (.int kh j)) (lo hi : Nat) (hi1 : i = (lo : Int)) (hj : j = (hi : Int)) (hk : lo ≤ hi) (hk2 : hi ≤ c)
  (hK : K (a'.put o.dst (.slice (cutA A c lo size) (hi - lo) (c - lo))) w1) : o.wp P a' w1 K Q := by
 refine step_value (v := .slice (cutA A c lo size) (hi - lo) (c - lo)) (w2 := w1) ?_ hK
 simp only [execOp, ho, Option.map_some, Option.map_none, eval_tmp q1, eval_tmp q2, eval_tmp q3, Sem.run_bind, run_at T, run_cut_mid2 T A n c lo hi kl kh i j hi1 hj hk hk2, Result.andThen_ok, Sem.run_pure]
end
theorem BytesAt.mid {w : World} {B n c : Nat} {A : Option Addr} {l : List UInt8} (h : BytesAt w B A n l) (lo k : Nat) (hk : lo + k ≤ n) (hnc : n ≤ c) : BytesAt w B (cutA A c lo 1) k ((l.drop lo).take k) :=
 (h.tail lo (by omega) hnc).head k (by omega)
theorem bytes_lt {w : World} {B : Nat} {l : List UInt8} {A2 : Option Addr} {n2 : Nat} (h : BytesAt w B A2 n2 l) (hn : 0 < n2) : ∀ ad, A2 = some ad → ad.block < B := fun ad e => by
 obtain ⟨b, off, e2, hb, _⟩ := h.at_ hn
 rw [e2] at e
 injection e with e
 subst e
 exact hb
def NewS (B : Nat) : Nat → Prop := fun k => B ≤ k
def txW (w0 : World) (n : Nat) (l : List UInt8) : List Value → World → Prop
 | [], w => Keep (NewS w0.heap.size) w0 w
 | [x], w => Keep (NewS w0.heap.size) w0 w ∧ w.ownsRow w0.heap.size 5 1 x 0 []
 | [_, x], w => Keep (NewS w0.heap.size) w0 w ∧ w.ownsRow w0.heap.size 5 1 x n (l.map b8)
 | [_, _, x], w => Keep (NewS w0.heap.size) w0 w ∧ w.ownsRow w0.heap.size 5 1 x n (l.map b8)
 | _, _ => False
theorem txW.grow {w0 : World} {n : Nat} {l : List UInt8} : ∀ (vals : List Value) (w w2 : World), Grow w w2 → txW w0 n l vals w → txW w0 n l vals w2
 | [], _, _, hg, h => Keep.trans' h (Keep.grow hg)
 | [_], _, _, hg, h => ⟨Keep.trans' h.1 (Keep.grow hg), own_below h.2 hg⟩
 | [_, _], _, _, hg, h => ⟨Keep.trans' h.1 (Keep.grow hg), own_below h.2 hg⟩
 | [_, _, _], _, _, hg, h => ⟨Keep.trans' h.1 (Keep.grow hg), own_below h.2 hg⟩
 | _ :: _ :: _ :: _ :: _, _, _, _, h => h

set_option maxRecDepth 100000 in
set_option maxHeartbeats 4000000 in
theorem dText_any (w : World) (g : Nat) (A : Option Addr) (n c : Nat) (L : List UInt8) (at0 : Nat) (bad0 : Bool) (most : Int) (h0 : Rdd w g A n c L at0 bad0) (hn : n ≤ 140737488351232) :
  Calls Tryz.prog 143 #[.pointer (some ⟨g, 0, none⟩), .int .i64 most] w fun e w' => ∃ r B, e = .returned r ∧ w.heap.size ≤ B ∧ w'.ownsRow B 5 1 r (text most (ddSt L at0 bad0)).1.length ((text most (ddSt L at0 bad0)).1.map b8) ∧ RddAt w g A n c L (text most (ddSt L at0 bad0)).2 w' := by
 have bytesTy : AppTy Tryz.prog 28 5 (.int .u8 0) 1 1 := AppTy.mk' Tryz.underlying28 (by kernel_rfl) rfl (by decide)
 have hnum := dNumber_any w g A n c L at0 bad0 most h0
 rw [text_of]
 obtain ⟨N, hN⟩ : ∃ N, N = num most (ddSt L at0 bad0) := ⟨_, rfl⟩
 rw [← hN] at hnum ⊢
 have hm0 : N.1 ≤ 1099511627776 := by rw [hN]; exact num_most _ _
 obtain ⟨m, st⟩ := N
 have hm1 : m ≤ 1099511627776 := hm0
 obtain ⟨T, hT⟩ : ∃ T, T = textOf (m, st) := ⟨_, rfl⟩
 rw [← hT]
 have HT := Lib.hid hT
 have Hnum := Lib.hid hnum
 have hcm := h0.cm
 have hnc := h0.nc
 unfold maxLen at hcm
 clear hN hT hnum hm0 h0
 go_enter Tryz.func143, Tryz.ntmps143
 go_wp2_with fail
 refine Hnum.out.mono ?_
 rintro e w1 ⟨rfl, at1, bad1, hd1, hs1, hk1⟩
 have Hs1 := Lib.hid hs1
 clear hs1
 have hle := hd1.le
 have hc0 := hd1.cell.cell 0
 have hc1 := hd1.cell.cell 1
 have hc2 := hd1.cell.cell 2
 have hm := fun q => (hd1.grow (Grow.drewN w1 q)).mark true
 have Hm := Lib.hid hm
 have hf2 := hd1.cell.frozen 2
 have hf1 := hd1.cell.frozen 1
 clear hm
 cases bad1 with
 | true =>
  have hst : st = none := Hs1.out.symm
  subst hst
  have hTe : T = ([], none) := HT.out
  subst hTe
  clear HT
  go_wp2_with fail
  go_quiet (fail)
  go_wp2
  go_ret
  refine ⟨_, rfl, w.heap.size, Nat.le_refl _, World.ownsRow_nil _ _ _ _, at1, true, (Hm.out _).1, rfl, (hk1.trans' (Keep.grow (Grow.drewN _ _))).trans' (Hm.out _).2⟩
 | false =>
  have hst : some (L.drop at1) = st := Hs1.out
  subst hst
  have w10 : IntKind.i64.wrap ((n : Int) - (at1 : Int)) = (n : Int) - (at1 : Int) := IntWalk.i64_in _ (by omega)
  have hlen : (L.drop at1).length = n - at1 := by rw [List.length_drop, hd1.len]
  by_cases hmn : m ≤ n - at1
  ·have d1 : decide ((n : Int) - (at1 : Int) < (m : Int)) = false := decide_eq_false (by omega)
   have hTe : T = ((L.drop at1).take m, some ((L.drop at1).drop m)) := by rw [HT.out, textOf, if_pos (by rw [hlen]; exact hmn)]
   have HTe := Lib.hid hTe
   clear HT hTe
   have hgo : ∀ q, Rdd ((w1.drewN q).setCell ⟨g, 1, none⟩ (.int .i64 ((at1 : Int) + (m : Int)))) g A n c L (at1 + m) false ∧ Keep (Own1 g) w1 ((w1.drewN q).setCell ⟨g, 1, none⟩ (.int .i64 ((at1 : Int) + (m : Int)))) := fun q => by
    have h := (hd1.grow (Grow.drewN w1 q)).go (at1 + m) (by omega)
    rw [Int.natCast_add] at h
    exact ⟨h.1, (Keep.grow (Grow.drewN w1 q)).trans' h.2⟩
   have Hgo := Lib.hid hgo
   clear hgo hd1
   go_wp2_with fail
   go_quiet (fail)
   go_wp2_with fail
   obtain ⟨hd5, hk5⟩ := Hgo.out nq
   obtain ⟨W5, hW5⟩ : ∃ W5, (w1.drewN nq).setCell ⟨g, 1, none⟩ (.int .i64 ((at1 : Int) + (m : Int))) = W5 := ⟨_, rfl⟩
   rw [hW5] at hd5 hk5 ⊢
   clear hW5 Hgo Hm
   have hb0 := hd5.cell.cell 0
   have hb1 := hd5.cell.cell 1
   have hgl := hd5.cell.lt
   have hgb : ¬ NewS W5.heap.size g := fun h => by have h' : W5.heap.size ≤ g := h; omega
   have Hmid := Lib.hid (show ∀ w3, Keep (NewS W5.heap.size) W5 w3 → BytesAt w3 W5.heap.size (cutA A c at1 1) m ((L.drop at1).take m) from fun w3 hk => ReadsAt.keep (hd5.reads.mid at1 m (by omega) hnc) fun p hp => hk.cell hp (fun h => by have h' : W5.heap.size ≤ p.block := h; omega))
   have w49 : IntKind.i64.wrap ((at1 : Int) + (m : Int) - (m : Int)) = (at1 : Int) := by rw [show (at1 : Int) + (m : Int) - (m : Int) = (at1 : Int) by omega]; exact IntWalk.i64_in _ (by omega)
   refine wp_region_stages (by kernel_rfl) ?_
   refine anyOrder_start [0, 16, 17] (Keep (NewS W5.heap.size)) (txW W5 m ((L.drop at1).take m)) (FactsOn [.any, .is (.pointer (some ⟨g, 0, none⟩)), .is (.pointer (some ⟨g, 0, none⟩)), .is (.pointer (some ⟨g, 0, none⟩)), .is (.slice A n c), .is (.pointer (some ⟨g, 0, none⟩)), .is (.pointer (some ⟨g, 0, none⟩)), .is (.pointer (some ⟨g, 1, none⟩)), .is (.int .i64 ((at1 : Int) + (m : Int))), .is (.int .i64 (m : Int)), .is (.int .i64 (at1 : Int)), .is (.pointer (some ⟨g, 0, none⟩)), .is (.pointer (some ⟨g, 0, none⟩)), .is (.pointer (some ⟨g, 1, none⟩)), .is (.int .i64 ((at1 : Int) + (m : Int))), .is (.slice (cutA A c at1 1) (at1 + m - at1) (c - at1)), .any, .any]) (fun i => 99) keep_trans keep_grow (txW.grow) (factsOn_mono _) (by kernel_rfl) (by kernel_rfl) (show txW W5 m ((L.drop at1).take m) [] W5 from Keep.refl _ _) ?_ ?_
   ·refine ⟨?_, ?_, ?_, ?_, ?_, ?_, ?_, ?_, ?_, ?_, ?_, ?_, ?_, ?_, ?_, ?_, ?_, ?_, trivial⟩
    ·refine stageOf_mem (t := 0) rfl ?_
     intro us vals w3 a' ha hle hW hd hv
     obtain rfl := List.eq_nil_of_length_eq_zero (Nat.le_zero.1 (show vals.length ≤ 0 from Nat.le_of_eq hv))
     refine ⟨wanted_none rfl, fun K hK => ?_⟩
     refine step_value (v := .slice (some ⟨w3.heap.size, 0, none⟩) 0 0) (w2 := w3.alloc (.cells #[] 5)) (by go_simp) (hK _ _ (Keep.grow (Grow.alloc _ _)) ⟨hW.trans' (Keep.grow (Grow.alloc _ _)), World.ownsRow_made w3 #[] 0 hle.size (by decide) rfl⟩)
    ·refine sF rfl rfl ?_
     intro us vals w3 a' ha hle hW hd hv K hK
     have q0 : a'.tmps[0]? = some (.pointer (some ⟨g, 0, none⟩)) := by rw [ha.out]; kernel_rfl
     exact sV hK rfl
    ·refine sF rfl rfl ?_
     intro us vals w3 a' ha hle hW hd hv K hK
     obtain ⟨d1, _⟩ := hd
     have q40 : a'.tmps[40]? = some (us 1) := by rw [ha.out]; kernel_rfl
     rw [show us 1 = .pointer (some ⟨g, 0, none⟩) from d1] at q40
     exact sV (v := .pointer (some ⟨g, 0, none⟩)) hK rfl
    ·refine sF rfl rfl ?_
     intro us vals w3 a' ha hle hW hd hv K hK
     obtain ⟨d2, _⟩ := hd
     have q41 : a'.tmps[41]? = some (us 2) := by rw [ha.out]; kernel_rfl
     rw [show us 2 = .pointer (some ⟨g, 0, none⟩) from d2] at q41
     exact sV (v := .pointer (some ⟨g, 0, none⟩)) hK rfl
    ·refine sF rfl rfl ?_
     intro us vals w3 a' ha hle hW hd hv K hK
     obtain ⟨d3, _⟩ := hd
     have q42 : a'.tmps[42]? = some (us 3) := by rw [ha.out]; kernel_rfl
     rw [show us 3 = .pointer (some ⟨g, 0, none⟩) from d3] at q42
     have hc : w3.cell? ⟨g, 0, none⟩ = some (.slice A n c) := (hle.cell (p := ⟨g, 0, none⟩) hgl hgb).trans hb0
     exact sV (v := .slice A n c) hK rfl
    ·refine sF rfl rfl ?_
     intro us vals w3 a' ha hle hW hd hv K hK
     have q0 : a'.tmps[0]? = some (.pointer (some ⟨g, 0, none⟩)) := by rw [ha.out]; kernel_rfl
     exact sV hK rfl
    ·refine sF rfl rfl ?_
     intro us vals w3 a' ha hle hW hd hv K hK
     obtain ⟨d5, _⟩ := hd
     have q44 : a'.tmps[44]? = some (us 5) := by rw [ha.out]; kernel_rfl
     rw [show us 5 = .pointer (some ⟨g, 0, none⟩) from d5] at q44
     exact sV (v := .pointer (some ⟨g, 0, none⟩)) hK rfl
    ·refine sF rfl rfl ?_
     intro us vals w3 a' ha hle hW hd hv K hK
     obtain ⟨d6, _⟩ := hd
     have q45 : a'.tmps[45]? = some (us 6) := by rw [ha.out]; kernel_rfl
     rw [show us 6 = .pointer (some ⟨g, 0, none⟩) from d6] at q45
     exact sV (v := .pointer (some ⟨g, 1, none⟩)) hK rfl
    ·refine sF rfl rfl ?_
     intro us vals w3 a' ha hle hW hd hv K hK
     obtain ⟨d7, _⟩ := hd
     have q46 : a'.tmps[46]? = some (us 7) := by rw [ha.out]; kernel_rfl
     rw [show us 7 = .pointer (some ⟨g, 1, none⟩) from d7] at q46
     have hc : w3.cell? ⟨g, 1, none⟩ = some (.int .i64 ((at1 : Int) + (m : Int))) := (hle.cell (p := ⟨g, 1, none⟩) hgl hgb).trans hb1
     exact sV (v := .int .i64 ((at1 : Int) + (m : Int))) hK rfl
    ·refine sF rfl rfl ?_
     intro us vals w3 a' ha hle hW hd hv K hK
     have q5 : a'.tmps[5]? = some (.int .i64 (m : Int)) := by rw [ha.out]; kernel_rfl
     exact sV hK rfl
    ·refine sF rfl rfl ?_
     intro us vals w3 a' ha hle hW hd hv K hK
     obtain ⟨d8, d9, _⟩ := hd
     have q47 : a'.tmps[47]? = some (us 8) := by rw [ha.out]; kernel_rfl
     rw [show us 8 = .int .i64 ((at1 : Int) + (m : Int)) from d8] at q47
     have q48 : a'.tmps[48]? = some (us 9) := by rw [ha.out]; kernel_rfl
     rw [show us 9 = .int .i64 (m : Int) from d9] at q48
     refine step_value (v := .int .i64 (at1 : Int)) (w2 := w3) ?_ (hK _ _ (Grow.refl _) rfl)
     go_simp
     exact IntWalk.i64_in _ (by omega)
    ·refine sF rfl rfl ?_
     intro us vals w3 a' ha hle hW hd hv K hK
     have q0 : a'.tmps[0]? = some (.pointer (some ⟨g, 0, none⟩)) := by rw [ha.out]; kernel_rfl
     exact sV hK rfl
    ·refine sF rfl rfl ?_
     intro us vals w3 a' ha hle hW hd hv K hK
     obtain ⟨d11, _⟩ := hd
     have q50 : a'.tmps[50]? = some (us 11) := by rw [ha.out]; kernel_rfl
     rw [show us 11 = .pointer (some ⟨g, 0, none⟩) from d11] at q50
     exact sV (v := .pointer (some ⟨g, 0, none⟩)) hK rfl
    ·refine sF rfl rfl ?_
     intro us vals w3 a' ha hle hW hd hv K hK
     obtain ⟨d12, _⟩ := hd
     have q51 : a'.tmps[51]? = some (us 12) := by rw [ha.out]; kernel_rfl
     rw [show us 12 = .pointer (some ⟨g, 0, none⟩) from d12] at q51
     exact sV (v := .pointer (some ⟨g, 1, none⟩)) hK rfl
    ·refine sF rfl rfl ?_
     intro us vals w3 a' ha hle hW hd hv K hK
     obtain ⟨d13, _⟩ := hd
     have q52 : a'.tmps[52]? = some (us 13) := by rw [ha.out]; kernel_rfl
     rw [show us 13 = .pointer (some ⟨g, 1, none⟩) from d13] at q52
     have hc : w3.cell? ⟨g, 1, none⟩ = some (.int .i64 ((at1 : Int) + (m : Int))) := (hle.cell (p := ⟨g, 1, none⟩) hgl hgb).trans hb1
     exact sV (v := .int .i64 ((at1 : Int) + (m : Int))) hK rfl
    ·refine sF rfl rfl ?_
     intro us vals w3 a' ha hle hW hd hv K hK
     obtain ⟨d4, d10, d14, _⟩ := hd
     have q43 : a'.tmps[43]? = some (us 4) := by rw [ha.out]; kernel_rfl
     rw [show us 4 = .slice A n c from d4] at q43
     have q49 : a'.tmps[49]? = some (us 10) := by rw [ha.out]; kernel_rfl
     rw [show us 10 = .int .i64 (at1 : Int) from d10] at q49
     have q53 : a'.tmps[53]? = some (us 14) := by rw [ha.out]; kernel_rfl
     rw [show us 14 = .int .i64 ((at1 : Int) + (m : Int)) from d14] at q53
     exact step_cut_mid2 bytesTy rfl q43 q49 q53 at1 (at1 + m) rfl (by rw [Int.natCast_add]) (by omega) (by omega) (hK _ _ (Grow.refl _) rfl)
    ·refine stageOf_mem (t := 1) rfl ?_
     intro us vals w3 a' ha hle hW hd hv
     obtain ⟨d0, d15, _⟩ := hd
     obtain ⟨x0, rfl⟩ := List.length_eq_one_iff.1 hv
     obtain rfl : us 0 = x0 := by have h0 : some x0 = some (us 0) := d0; injection h0 with h0; exact h0.symm
     refine ⟨wanted_none rfl, fun K hK => ?_⟩
     have q39 : a'.tmps[39]? = some (us 0) := by rw [ha.out]; kernel_rfl
     have q54 : a'.tmps[54]? = some (us 15) := by rw [ha.out]; kernel_rfl
     rw [show us 15 = .slice (cutA A c at1 1) (at1 + m - at1) (c - at1) from d15] at q54
     rw [show at1 + m - at1 = m by omega] at q54
     refine wp_append_reads w3 (.tmp 39) (.tmp 54) rfl bytesTy (evalT q39) hW.2 (evalT q54) (Hmid.out w3 hle) (b8_one _) (by simp only [maxLen]; omega) (by omega) hle.size ?_
     intro v2 w4 ho hg hat
     have hk : Keep (NewS W5.heap.size) w3 w4 := (Keep.grown hg).mono fun j hj => Or.inl (hW.2.lt j hj).1
     exact hK _ _ hk ⟨hW.1.trans' hk, by simpa using ho⟩
    ·refine stageOf_mem (t := 2) rfl ?_
     intro us vals w3 a' ha hle hW hd hv
     obtain ⟨d16, _, _, _, _, _, _, _, _, _, _, _, _, _, _, _, _, _, _, _⟩ := hd
     refine ⟨wanted_none rfl, fun K hK => ?_⟩
     have q55 : a'.tmps[55]? = some (us 16) := by rw [ha.out]; kernel_rfl
     obtain ⟨a0, a1, rfl⟩ : ∃ a0 a1, vals = [a0, a1] := by match vals, hv with | [a0, a1], _ => exact ⟨a0, a1, rfl⟩
     have e16 : a1 = us 16 := by have h0 : some a1 = some (us 16) := d16; injection h0
     subst e16
     exact step_value (w2 := w3) (by go_simp) (hK _ _ (Keep.refl _ _) hW)
   ·intro us vals w3 hle hvl hV htl hfa
    obtain ⟨a0, a1, a2, rfl⟩ : ∃ a0 a1 a2, vals = [a0, a1, a2] := by match vals, hvl with | [a0, a1, a2], _ => exact ⟨a0, a1, a2, rfl⟩
    have e2 : a2 = us 17 := by have h0 : some a2 = some (us 17) := htl 2 (by simp); injection h0
    subst e2
    obtain ⟨hk3, hown3⟩ := hV
    have hd3 : Rdd w3 g A n c L (at1 + m) false := hd5.kept hk3 hgb fun h0 ad e h => by
     have h1 := bytes_lt hd5.reads h0 ad e
     have h' : W5.heap.size ≤ ad.block := h
     omega
    have hkw : Keep (Own1 g) w w3 := (hk1.trans' hk5).trans hk3 fun j hj => Or.inr (by have h' : W5.heap.size ≤ j := hj; have := (hk1.trans' hk5).size; omega)
    have hwz := (hk1.trans' hk5).size
    have hll : ((L.drop at1).take m).length = m := by rw [List.length_take, hlen]; omega
    have Hfin := Lib.hid (show w3.ownsRow W5.heap.size 5 1 (us 17) T.1.length (T.1.map b8) by rw [HTe.out, hll]; exact hown3)
    have Hdd := Lib.hid (show ddSt L (at1 + m) false = T.2 by rw [HTe.out]; show some (L.drop (at1 + m)) = some ((L.drop at1).drop m); rw [List.drop_drop])
    clear hfa htl hle hown3 hll
    (try simp only [Exit.then])
    simp only [fills, Act.put, List.setIfInBounds_toArray, List.set_cons_succ, List.set_cons_zero, Nat.zero_add, Nat.reduceAdd]
    go_wp2
    go_ret
    exact ⟨_, W5.heap.size, rfl, hwz, Hfin.out, at1 + m, false, hd3, Hdd.out, hkw⟩
  ·have d1 : decide ((n : Int) - (at1 : Int) < (m : Int)) = true := decide_eq_true (by omega)
   have hTe : T = ([], none) := by rw [HT.out, textOf, if_neg (by rw [hlen]; exact hmn)]
   subst hTe
   clear HT
   go_wp2_with fail
   go_quiet (fail)
   go_wp2
   go_ret
   refine ⟨_, rfl, w.heap.size, Nat.le_refl _, World.ownsRow_nil _ _ _ _, at1, true, (Hm.out _).1, rfl, (hk1.trans' (Keep.grow (Grow.drewN _ _))).trans' (Hm.out _).2⟩
end Go.Proofs.YtcimkoehcdfjdaaGreatDoor

namespace Go.Proofs.YtcimkoehcdfjdaaGreatDoor
open Go.RowKit WireM

structure DRise (w : World) (g : Nat) (A : Option Addr) (n c : Nat) (L : List UInt8) (most : Int) (T : List Nat × St) (N i last : Nat) (rs : List Nat) (row : Value) (W : World) : Prop where
 rd : ∃ at_ bad, Rdd W g A n c L at_ bad ∧ (bad = true → T = ([], none)) ∧ (bad = false → T = riseT most (N - i) last (some (L.drop at_)) rs ∧ last ≤ 1099511627777) ∧ (bad = false → rs.length + (n - at_) ≤ n)
 keep : Keep (Own1 g) w W
 own : W.ownsRow w.heap.size 3 1 row rs.length (rs.map fun n : Nat => .int .i64 (n : Int))
 last : last ≤ 2199023255560
 le : i ≤ N

set_option maxRecDepth 100000 in
set_option maxHeartbeats 8000000 in
theorem dRising_any (w : World) (g : Nat) (A : Option Addr) (n c : Nat) (L : List UInt8) (at0 : Nat) (bad0 : Bool) (many most : Int) (h0 : Rdd w g A n c L at0 bad0) (hn : n ≤ 17592186043904) :
  Calls Tryz.prog 102 #[.pointer (some ⟨g, 0, none⟩), .int .i64 many, .int .i64 most] w fun e w' => ∃ r B, e = .returned r ∧ w.heap.size ≤ B ∧ w'.ownsRow B 3 1 r (rising many most (ddSt L at0 bad0)).1.length ((rising many most (ddSt L at0 bad0)).1.map fun n : Nat => .int .i64 (n : Int)) ∧ RddAt w g A n c L (rising many most (ddSt L at0 bad0)).2 w' := by
 have intsTy : AppTy Tryz.prog 49 3 (.int .i64 0) 1 8 := AppTy.mk' Tryz.underlying49 (by kernel_rfl) rfl (by decide)
 have hnum := dNumber_any w g A n c L at0 bad0 many h0
 obtain ⟨N, hN⟩ : ∃ N, N = num many (ddSt L at0 bad0) := ⟨_, rfl⟩
 rw [← hN] at hnum
 have hm0 : N.1 ≤ 1099511627776 := by rw [hN]; exact num_most _ _
 obtain ⟨T, hT⟩ : ∃ T, T = rising many most (ddSt L at0 bad0) := ⟨_, rfl⟩
 rw [← hT]
 obtain ⟨m, st⟩ := N
 have hm1 : m ≤ 1099511627776 := hm0
 have Hnum := Lib.hid hnum
 have hg0 := h0.cell.lt
 have Hold := Lib.hid (show 0 < n → ∀ ad, A = some ad → ad.block < w.heap.size from bytes_lt h0.reads)
 have hTn : st = none → T = ([], none) := fun h => by rw [hT]; exact rising_none (h ▸ hN.symm)
 have hTs : ∀ l, st = some l → T = riseT most m 0 (some l) [] := fun l h => by rw [hT]; exact rising_T (h ▸ hN.symm)
 have HTn := Lib.hid hTn
 have HTs := Lib.hid hTs
 clear hN hT hnum hm0 h0 hTn hTs
 go_enter Tryz.func102, Tryz.ntmps102
 go_wp2_with fail
 refine Hnum.out.mono ?_
 rintro e w1 ⟨rfl, at1, bad1, hd1, hs1, hk1⟩
 have hS0 : DRise w g A n c L most T m 0 0 [] (.slice none 0 0) w1 := ⟨⟨at1, bad1, hd1, (fun h => HTn.out (by rw [← hs1, h]; rfl)), (fun h => ⟨HTs.out _ (by rw [← hs1, h]; rfl), by omega⟩), fun _ => by simp⟩, hk1, World.ownsRow_nil _ _ _ _, by omega, by omega⟩
 have HS0 := Lib.hid hS0
 clear hS0 hd1 hs1 hk1
 go_wp2_with fail
 go_loopw [8, 9, 10] (fun v8 v9 v10 wr => ∃ (i last : Nat) (rs : List Nat), v10 = .int .i64 (i : Int) ∧ v9 = .int .i64 ((last : Int) - 1) ∧ DRise w g A n c L most T m i last rs v8 wr) (fun _ _ v10 _ => m - (intOf v10).toNat)
 case atStart => exact ⟨0, 0, [], rfl, rfl, HS0.out⟩
 case round =>
  clear HS0
  obtain ⟨i, last, rs, rfl, rfl, ⟨at2, bad2, hd2, hb2, ht2, hll2⟩, hk2, hown, hlast, him⟩ := hrel
  have Hb2 := Lib.hid hb2
  have Ht2 := Lib.hid ht2
  have Hll2 := Lib.hid hll2
  have hc2 := hd2.cell.cell 2
  have hle2 := hd2.le
  clear hb2 ht2 hll2
  by_cases hi : i < m
  ·cases bad2 with
   | true =>
    have hTe := Hb2.out rfl
    have HTe := Lib.hid hTe
    clear hTe
    go_wp2
    go_ret
    rw [HTe.out]
    first | exact ⟨_, w.heap.size, rfl, Nat.le_refl _, World.ownsRow_nil _ _ _ _, at2, true, hd2, rfl, hk2⟩ | exact ⟨_, rfl, w.heap.size, Nat.le_refl _, World.ownsRow_nil _ _ _ _, at2, true, hd2, rfl, hk2⟩
   | false =>
    obtain ⟨hTr, hlast2⟩ := Ht2.out rfl
    have hrl := Hll2.out rfl
    have hnum := dNumber_any wr g A n c L at2 false ((maxNum : Nat) : Int) hd2
    obtain ⟨M, hM⟩ : ∃ M, M = num ((maxNum : Nat) : Int) (ddSt L at2 false) := ⟨_, rfl⟩
    rw [← hM] at hnum
    have hM0 : M.1 ≤ 1099511627776 := by rw [hM]; exact num_most _ _
    obtain ⟨m2, st2⟩ := M
    have hM1 : m2 ≤ 1099511627776 := hM0
    rw [show m - i = (m - i - 1) + 1 by omega] at hTr
    have HM := Lib.hid (show num ((maxNum : Nat) : Int) (some (L.drop at2)) = (m2, st2) from hM.symm)
    have HTr := Lib.hid hTr
    have Hnum := Lib.hid hnum
    have hlen := hd2.len
    clear hM hM0 hTr hnum hd2
    obtain ⟨X, hX⟩ : ∃ X : Nat, X = last + m2 := ⟨_, rfl⟩
    have hXb : X ≤ 2199023255553 := by omega
    have HX := Lib.hid (show (last : Int) - 1 + 1 + (m2 : Int) = (X : Int) by omega)
    have HX3 := Lib.hid (show (last : Int) + (m2 : Int) = (X : Int) by omega)
    have HX2 := Lib.hid hX
    clear hX
    go_wp2_with fail
    refine Calls.mono (show Calls _ _ #[_, .int .i64 1099511627776] _ _ from Hnum.out) ?_
    rintro e w2 ⟨rfl, at3, bad3, hd3, hs3, hk3⟩
    have Hs3 := Lib.hid hs3
    have hkx := hk2.trans' hk3
    have hown2 := hk3.own hown fun q hq hq2 => by
     have h := (hown.lt q hq).1
     rw [show q = g from hq2] at h
     omega
    have hc3 := hd3.cell.cell 2
    have hf3 := hd3.cell.frozen 2
    have hm3 := hd3.mark true
    have Hm3 := Lib.hid hm3
    clear hs3 hk2 hk3 hown hm3
    go_upto_region 8 with (fail)
    first | rw [HX.out] | rw [HX3.out]
    by_cases hc : (X : Int) ≤ most ∧ X ≤ 1099511627776
    ·obtain ⟨hcm, hcx⟩ := hc
     have d1 : decide (most < (X : Int)) = false := decide_eq_false (by omega)
     have d2 : decide ((1099511627776 : Int) < (X : Int)) = false := decide_eq_false (by omega)
     have hr1 : ReadsAt ((w2).alloc (.cells #[.int .i64 (X : Int)] 3)) (w2.heap.size + 1) 1 (some ⟨w2.heap.size, 0, none⟩) 1 [.int .i64 (X : Int)] := by
      have h := ReadsAt.made1 (w2) 3 (.int .i64 (X : Int))
      (try rw [size_setCell] at h)
      exact h
     have hownA := own_below hown2 (Grow.alloc (w2) (.cells #[.int .i64 (X : Int)] 3))
     have hkw := hkx.trans' (Keep.alloc (S := Own1 g) (w2) (.cells #[.int .i64 (X : Int)] 3))
     have hbz : w.heap.size ≤ ((w2).alloc (.cells #[.int .i64 (X : Int)] 3)).heap.size := hkw.size
     have hrs : rs.length + 1 ≤ 17592186044416 := by omega
     have Hr1 := Lib.hid hr1
     have HownA := Lib.hid hownA
     have Hkw := Lib.hid hkw
     have HdA := Lib.hid (hd3.grow (Grow.alloc (w2) (.cells #[.int .i64 (X : Int)] 3)))
     clear hr1 hownA hkw hown2
     go_wp2_with (at_builtin; refine wpList_append_reads _ rfl (.tmp 41) (.tmp 43) rfl intsTy rfl HownA.out rfl Hr1.out (by simp [Value.oneCell']) (by simp only [maxLen]; omega) (by omega) hbz ?_; intro v4 w4 hown4 hgrow4 hat4)
     have hk4w := (Keep.grown hgrow4)
     have hd5 := HdA.out.kept hk4w (fun h => by have := (HownA.out.lt g h).1; omega) (fun h0 ad e h => by have h1 := (HownA.out.lt ad.block h).1; have h2 := Hold.out h0 ad e; omega)
     have hk5 : Keep (Own1 g) w w4 := Hkw.out.trans hk4w fun j hj => Or.inr (HownA.out.lt j hj).1
     have hown5 : w4.ownsRow w.heap.size 3 1 v4 (rs ++ [X]).length ((rs ++ [X]).map fun n : Nat => .int .i64 (n : Int)) := by
      rw [List.length_append, List.map_append, List.map_cons, List.map_nil]
      exact hown4
     have Hf := Lib.hid (show DRise w g A n c L most T m (i + 1) (X + 1) (rs ++ [X]) v4 w4 from by
       refine ⟨⟨at3, bad3, hd5, fun h => ?_, fun h => ?_, fun h => ?_⟩, hk5, hown5, by omega, by omega⟩
       ·have hs3 := Hs3.out
        rw [h] at hs3
        have hM2 := HM.out
        rw [← hs3] at hM2
        rw [HTr.out]
        exact riseT_fail hM2
       ·have hs3 := Hs3.out
        rw [h] at hs3
        have hM2 := HM.out
        rw [← hs3] at hM2
        have hX := HX2.out
        refine ⟨?_, by omega⟩
        rw [HTr.out, riseT_step hM2 ⟨by omega, by simp only [maxNum]; omega⟩, hX, show m - (i + 1) = m - i - 1 by omega]
       ·have hs3 := Hs3.out
        rw [h] at hs3
        have hM2 := HM.out
        rw [← hs3] at hM2
        have h2 := num_less hM2
        rw [List.length_drop, List.length_drop, hlen] at h2
        rw [List.length_append]
        have h3 := hd5.le
        simp only [List.length_cons, List.length_nil]
        omega)
     clear hd5 hk5 hown5 hown4 hgrow4 hat4 hk4w
     go_roundw
     case rel => exact ⟨i + 1, X + 1, rs ++ [X], by go_num, by go_num, Hf.out⟩
     case measure => simp [intOf]; omega
    ·have hTx : (∃ l, st2 = some l) → T = ([], none) := fun ⟨l, h⟩ => by
      have hM2 := HM.out
      rw [h] at hM2
      rw [HTr.out]
      refine riseT_off hM2 fun hc2 => hc ?_
      have := HX2.out
      simp only [maxNum] at hc2
      omega
     have hTz : T = ([], none) := by
      cases st2 with
      | none => rw [HTr.out]; exact riseT_fail HM.out
      | some l => exact hTx ⟨l, rfl⟩
     have HTz := Lib.hid hTz
     have hown3 := (Hm3.out.2).own hown2 fun q hq hq2 => by
      have h := (hown2.lt q hq).1
      rw [show q = g from hq2] at h
      omega
     have hkm := hkx.trans' Hm3.out.2
     have hd4 := Hm3.out.1
     clear hTx hTz hown2
     by_cases hcm : (X : Int) ≤ most
     ·have d1 : decide (most < (X : Int)) = false := decide_eq_false (by omega)
      have d2 : decide ((1099511627776 : Int) < (X : Int)) = true := decide_eq_true (by omega)
      have hr1 : ReadsAt ((w2.setCell ⟨g, 2, none⟩ (.bool true)).alloc (.cells #[.int .i64 (X : Int)] 3)) (w2.heap.size + 1) 1 (some ⟨w2.heap.size, 0, none⟩) 1 [.int .i64 (X : Int)] := by
       have h := ReadsAt.made1 (w2.setCell ⟨g, 2, none⟩ (.bool true)) 3 (.int .i64 (X : Int))
       (try rw [size_setCell] at h)
       exact h
      have hownA := own_below hown3 (Grow.alloc (w2.setCell ⟨g, 2, none⟩ (.bool true)) (.cells #[.int .i64 (X : Int)] 3))
      have hkw := hkm.trans' (Keep.alloc (S := Own1 g) (w2.setCell ⟨g, 2, none⟩ (.bool true)) (.cells #[.int .i64 (X : Int)] 3))
      have hbz : w.heap.size ≤ ((w2.setCell ⟨g, 2, none⟩ (.bool true)).alloc (.cells #[.int .i64 (X : Int)] 3)).heap.size := hkw.size
      have hrs : rs.length + 1 ≤ 17592186044416 := by omega
      have Hr1 := Lib.hid hr1
      have HownA := Lib.hid hownA
      have Hkw := Lib.hid hkw
      have HdA := Lib.hid (hd4.grow (Grow.alloc (w2.setCell ⟨g, 2, none⟩ (.bool true)) (.cells #[.int .i64 (X : Int)] 3)))
      clear hr1 hownA hkw hown3
      go_wp2_with (at_builtin; refine wpList_append_reads _ rfl (.tmp 41) (.tmp 43) rfl intsTy rfl HownA.out rfl Hr1.out (by simp [Value.oneCell']) (by simp only [maxLen]; omega) (by omega) hbz ?_; intro v4 w4 hown4 hgrow4 hat4)
      have hk4w := (Keep.grown hgrow4)
      have hd5 := HdA.out.kept hk4w (fun h => by have := (HownA.out.lt g h).1; omega) (fun h0 ad e h => by have h1 := (HownA.out.lt ad.block h).1; have h2 := Hold.out h0 ad e; omega)
      have hk5 : Keep (Own1 g) w w4 := Hkw.out.trans hk4w fun j hj => Or.inr (HownA.out.lt j hj).1
      have hown5 : w4.ownsRow w.heap.size 3 1 v4 (rs ++ [X]).length ((rs ++ [X]).map fun n : Nat => .int .i64 (n : Int)) := by
       rw [List.length_append, List.map_append, List.map_cons, List.map_nil]
       exact hown4
      have Hf := Lib.hid (show DRise w g A n c L most T m (i + 1) (X + 1) (rs ++ [X]) v4 w4 from by
        exact ⟨⟨at3, true, hd5, fun _ => HTz.out, (fun h => by cases h), fun h => by cases h⟩, hk5, hown5, by omega, by omega⟩)
      clear hd5 hk5 hown5 hown4 hgrow4 hat4 hk4w
      go_roundw
      case rel => exact ⟨i + 1, X + 1, rs ++ [X], by go_num, by go_num, Hf.out⟩
      case measure => simp [intOf]; omega
     ·have d1 : decide (most < (X : Int)) = true := decide_eq_true (by omega)
      have hr1 : ReadsAt ((w2.setCell ⟨g, 2, none⟩ (.bool true)).alloc (.cells #[.int .i64 (X : Int)] 3)) (w2.heap.size + 1) 1 (some ⟨w2.heap.size, 0, none⟩) 1 [.int .i64 (X : Int)] := by
       have h := ReadsAt.made1 (w2.setCell ⟨g, 2, none⟩ (.bool true)) 3 (.int .i64 (X : Int))
       (try rw [size_setCell] at h)
       exact h
      have hownA := own_below hown3 (Grow.alloc (w2.setCell ⟨g, 2, none⟩ (.bool true)) (.cells #[.int .i64 (X : Int)] 3))
      have hkw := hkm.trans' (Keep.alloc (S := Own1 g) (w2.setCell ⟨g, 2, none⟩ (.bool true)) (.cells #[.int .i64 (X : Int)] 3))
      have hbz : w.heap.size ≤ ((w2.setCell ⟨g, 2, none⟩ (.bool true)).alloc (.cells #[.int .i64 (X : Int)] 3)).heap.size := hkw.size
      have hrs : rs.length + 1 ≤ 17592186044416 := by omega
      have Hr1 := Lib.hid hr1
      have HownA := Lib.hid hownA
      have Hkw := Lib.hid hkw
      have HdA := Lib.hid (hd4.grow (Grow.alloc (w2.setCell ⟨g, 2, none⟩ (.bool true)) (.cells #[.int .i64 (X : Int)] 3)))
      clear hr1 hownA hkw hown3
      go_wp2_with (at_builtin; refine wpList_append_reads _ rfl (.tmp 41) (.tmp 43) rfl intsTy rfl HownA.out rfl Hr1.out (by simp [Value.oneCell']) (by simp only [maxLen]; omega) (by omega) hbz ?_; intro v4 w4 hown4 hgrow4 hat4)
      have hk4w := (Keep.grown hgrow4)
      have hd5 := HdA.out.kept hk4w (fun h => by have := (HownA.out.lt g h).1; omega) (fun h0 ad e h => by have h1 := (HownA.out.lt ad.block h).1; have h2 := Hold.out h0 ad e; omega)
      have hk5 : Keep (Own1 g) w w4 := Hkw.out.trans hk4w fun j hj => Or.inr (HownA.out.lt j hj).1
      have hown5 : w4.ownsRow w.heap.size 3 1 v4 (rs ++ [X]).length ((rs ++ [X]).map fun n : Nat => .int .i64 (n : Int)) := by
       rw [List.length_append, List.map_append, List.map_cons, List.map_nil]
       exact hown4
      have Hf := Lib.hid (show DRise w g A n c L most T m (i + 1) (X + 1) (rs ++ [X]) v4 w4 from by
        exact ⟨⟨at3, true, hd5, fun _ => HTz.out, (fun h => by cases h), fun h => by cases h⟩, hk5, hown5, by omega, by omega⟩)
      clear hd5 hk5 hown5 hown4 hgrow4 hat4 hk4w
      go_roundw
      case rel => exact ⟨i + 1, X + 1, rs ++ [X], by go_num, by go_num, Hf.out⟩
      case measure => simp [intOf]; omega
  ·obtain rfl : m = i := by omega
   cases bad2 with
   | true =>
    have hTe := Hb2.out rfl
    have HTe := Lib.hid hTe
    clear hTe
    go_wp2
    go_ret
    rw [HTe.out]
    first | exact ⟨_, w.heap.size, rfl, Nat.le_refl _, World.ownsRow_nil _ _ _ _, at2, true, hd2, rfl, hk2⟩ | exact ⟨_, rfl, w.heap.size, Nat.le_refl _, World.ownsRow_nil _ _ _ _, at2, true, hd2, rfl, hk2⟩
   | false =>
    obtain ⟨hTr, -⟩ := Ht2.out rfl
    rw [Nat.sub_self, riseT_zero] at hTr
    have HTr := Lib.hid hTr
    clear hTr
    go_wp2
    go_ret
    rw [HTr.out]
    first | exact ⟨_, w.heap.size, rfl, Nat.le_refl _, hown, at2, false, hd2, rfl, hk2⟩ | exact ⟨_, rfl, w.heap.size, Nat.le_refl _, hown, at2, false, hd2, rfl, hk2⟩
end Go.Proofs.YtcimkoehcdfjdaaGreatDoor
