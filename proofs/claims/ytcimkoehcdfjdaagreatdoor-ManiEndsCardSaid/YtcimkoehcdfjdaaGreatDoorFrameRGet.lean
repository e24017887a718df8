/-
  The walk of the document's Get (layer 3). Printed by gen/rget.py.
-/
import Derived.Deep.MidRow
import Derived.Deep.DeepCutAuto
import Derived.Deep.CutRange
import Derived.StillTailTactics
import Derived.BigQuiet
import Derived.Deep.QuietTactic
import Derived.LoopTactic
import Derived.Test.YtcimkoehcdfjdaaGreatDoorBaseE
import Derived.Test.YtcimkoehcdfjdaaGreatDoorDAll
import Derived.Test.YtcimkoehcdfjdaaGreatDoorRef01
import Derived.Test.YtcimkoehcdfjdaaGreatDoorFGetAll
namespace Go.Proofs.YtcimkoehcdfjdaaGreatDoor
open Go.RowKit WireM

structure TwoRd (gs gd : Nat) (A : Option Addr) (n c : Nat) (b : List UInt8) (X1 X2 : Value) (w0 : World) (vals : List Value) (w : World) : Prop where
 keep : Keep (fun k => k = gs ∨ k = gd) w0 w
 v0 : ∀ x, vals[0]? = some x → x = X1
 v1 : ∀ x, vals[1]? = some x → x = X2
 r0 : vals.length = 0 → Rdd w gs A n c b 0 false
 r1 : vals.length ≤ 1 → Rdd w gd A n c b (n - 4) false
theorem TwoRd.grow {gs gd : Nat} {A : Option Addr} {n c : Nat} {b : List UInt8} {X1 X2 : Value} {w0 : World} : ∀ vals x y, Grow x y → TwoRd gs gd A n c b X1 X2 w0 vals x → TwoRd gs gd A n c b X1 X2 w0 vals y :=
 fun _ _ _ hg h => ⟨h.keep.trans' (Keep.grow hg), h.v0, h.v1, fun hl => (h.r0 hl).grow hg, fun hl => (h.r1 hl).grow hg⟩
theorem ddSt_eq (L : List UInt8) (k : Nat) : ddSt L k false = some (L.drop k) := rfl
def PartW (wr : World) (tag : UInt8) : List Value → World → Prop
 | [], w => Grow wr w
 | [x], w => ∃ m, x = .pointer (some ⟨m, 0, none⟩) ∧ wr.heap.size ≤ m ∧ Blk w m 40 #[.int .u8 0, .slice none 0 0] ∧ Grow wr w
 | x :: _, w => ∃ m, x = .pointer (some ⟨m, 0, none⟩) ∧ wr.heap.size ≤ m ∧ Blk w m 40 #[.int .u8 (tag.toNat : Int), .slice none 0 0] ∧ Grow wr w
theorem PartW.grow {wr : World} {tag : UInt8} : ∀ vals x y, Grow x y → PartW wr tag vals x → PartW wr tag vals y
 | [], _, _, hg, h => Grow.trans h hg
 | [_], _, _, hg, ⟨m, h1, h2, h3, h4⟩ => ⟨m, h1, h2, hg.blkOf h3, h4.trans hg⟩
 | _ :: _ :: _, _, _, hg, ⟨m, h1, h2, h3, h4⟩ => ⟨m, h1, h2, hg.blkOf h3, h4.trans hg⟩
def atOf (R : Nat) (w : World) : Nat := match w.cell? ⟨R, 1, none⟩ with
 | some (.int _ x) => x.toNat
 | _ => 0
theorem Rdd.atOf {w : World} {g : Nat} {A : Option Addr} {n c : Nat} {L : List UInt8} {at_ : Nat} {bad : Bool} (h : Rdd w g A n c L at_ bad) : Proofs.YtcimkoehcdfjdaaGreatDoor.atOf g w = at_ := by
 have h1 := h.cell.cell 1
 simp at h1
 simp [Proofs.YtcimkoehcdfjdaaGreatDoor.atOf, h1]

set_option maxRecDepth 100000 in
set_option maxHeartbeats 4000000 in
theorem rGet_any (w : World) (B : Nat) (A : Option Addr) (n c : Nat) (b : List UInt8) (hR : BytesAt w B A n b) (hB : B ≤ w.heap.size) (hnc : n ≤ c) (hc : c ≤ maxLen) (hn : n ≤ 67108864) :
  Calls Tryz.prog 99 #[.slice A n c] w (GetTo w b) := by
 have bytesTy : AppTy Tryz.prog 28 5 (.int .u8 0) 1 1 := AppTy.mk' Tryz.underlying28 (by kernel_rfl) rfl (by decide)
 have hlen := hR.len
 have Hlen := Lib.hid hlen
 have d2 : decide ((67108864 : Int) < (n : Int)) = false := decide_eq_false (by omega)
 by_cases h8 : n < 8
 ·have hgb : getB b = none := by
   rw [getB, if_neg]
   intro h
   have := h.1
   omega
  have d1 : decide ((n : Int) < 8) = true := decide_eq_true (by omega)
  have Hgb := Lib.hid hgb
  clear hlen hgb
  go_enter Tryz.func99, Tryz.ntmps99
  go_wp2
  go_ret2
  exact Or.inr ⟨Hgb.out, rfl, Grow.refl _⟩
 ·have d1 : decide ((n : Int) < 8) = false := decide_eq_false (by omega)
  have hAlt : ∀ ad, A = some ad → ad.block < w.heap.size := fun ad e => Nat.lt_of_lt_of_le (bytes_lt hR (by omega) ad e) hB
  obtain ⟨W0, hW0⟩ : ∃ W0, (w.alloc (.cells #[.slice A n c, .int .i64 0, .bool false] 167)).alloc (.cells #[.slice A n c, .int .i64 ((n : Int) - 4), .bool false] 167) = W0 := ⟨_, rfl⟩
  have hG0 : Grow w W0 := by rw [← hW0]; exact (Grow.alloc _ _).trans (Grow.alloc _ _)
  have hb0 : Blk W0 w.heap.size 167 #[.slice A n c, .int .i64 ((0 : Nat) : Int), .bool false] := by rw [← hW0]; exact (Blk.new _ _ _).alloc _
  have hb1 : Blk W0 (w.heap.size + 1) 167 #[.slice A n c, .int .i64 ((n - 4 : Nat) : Int), .bool false] := by
   rw [← hW0, show ((n - 4 : Nat) : Int) = (n : Int) - 4 by omega]
   have := Blk.new (w.alloc (.cells #[.slice A n c, .int .i64 0, .bool false] 167)) 167 #[.slice A n c, .int .i64 ((n : Int) - 4), .bool false]
   simpa using this
  have hz1 := hb1.lt
  have hR0 : BytesAt W0 W0.heap.size A n b := (hR.below (Below.mono hG0 hB)).more (by omega)
  have hS0 : Rdd W0 w.heap.size A n c b 0 false := ⟨hb0, hR0, fun _ ad e => by have := hAlt ad e; omega, hnc, hc, by omega⟩
  have hD0 : Rdd W0 (w.heap.size + 1) A n c b (n - 4) false := ⟨hb1, hR0, fun _ ad e => by have := hAlt ad e; omega, hnc, hc, by omega⟩
  obtain ⟨X1, hX1⟩ : ∃ X1 : Nat, X1 = (fixed (some b)).1 := ⟨_, rfl⟩
  obtain ⟨X2, hX2⟩ : ∃ X2 : Nat, X2 = (fixed (some (b.drop (n - 4)))).1 := ⟨_, rfl⟩
  have hX1l : X1 < 4294967296 := by rw [hX1]; exact fixed_lt _
  have hF1 : ∀ W, Rdd W w.heap.size A n c b 0 false → Calls Tryz.prog 101 #[.pointer (some ⟨w.heap.size, 0, none⟩)] W fun e w' => e = .returned (.int .u32 (X1 : Int)) ∧ Keep (Own1 w.heap.size) W w' := fun W h => by
   refine (dFixed_any W w.heap.size A n c b 0 false h).mono ?_
   rintro e w' ⟨rfl, _, _, _, _, hk⟩
   exact ⟨by rw [hX1, ddSt_eq, List.drop_zero], hk⟩
  have hF2 : ∀ W, Rdd W (w.heap.size + 1) A n c b (n - 4) false → Calls Tryz.prog 101 #[.pointer (some ⟨w.heap.size + 1, 0, none⟩)] W fun e w' => e = .returned (.int .u32 (X2 : Int)) ∧ Keep (Own1 (w.heap.size + 1)) W w' := fun W h => by
   refine (dFixed_any W (w.heap.size + 1) A n c b (n - 4) false h).mono ?_
   rintro e w' ⟨rfl, _, _, _, _, hk⟩
   exact ⟨by rw [hX2, ddSt_eq], hk⟩
  obtain ⟨SU, hSU⟩ : ∃ SU : Nat, SU = (CrcM.sum (b.take (n - 4))).toNat := ⟨_, rfl⟩
  have hOne : ∀ W, Keep (fun k => k = w.heap.size ∨ k = w.heap.size + 1) W0 W → Calls Tryz.prog 43 #[.slice A (n - 4) c] W fun e w' => e = .returned (.int .u32 (SU : Int)) ∧ W = w' := fun W hk => by
   have hr : BytesAt W W.heap.size A n b := ReadsAt.more (hk.reads' hR0 (Nat.le_refl _) fun _ ad e h => by have := hAlt ad e; omega) hk.size
   have h4 := rOne_any W W.heap.size A (n - 4) c (b.take (n - 4)) (hr.head (n - 4) (by omega)) (by omega) hc
   rw [hSU]
   exact h4
  have hgb : getB b = if X1 = n ∧ X2 = SU then partsL ((b.take (n - 4)).drop 4) else none := by
   rw [getB, hX1, hX2, hSU]
   have e : sumOk b ↔ ((fixed (some b)).1 = n ∧ (fixed (some (b.drop (n - 4)))).1 = (CrcM.sum (b.take (n - 4))).toNat) := by
    unfold sumOk
    rw [hlen]
    exact ⟨fun h => ⟨h.2.2.1, h.2.2.2⟩, fun h => ⟨by omega, hn, h.1, h.2⟩⟩
   by_cases h : sumOk b
   ·rw [if_pos h, if_pos (e.1 h), hlen]
   ·rw [if_neg h, if_neg fun h2 => h (e.2 h2)]
  have HS0 := Lib.hid hS0
  have HD0 := Lib.hid hD0
  have HF1 := Lib.hid hF1
  have HF2 := Lib.hid hF2
  have HOne := Lib.hid hOne
  have Hgb := Lib.hid hgb
  have HG0 := Lib.hid hG0
  have HR0 := Lib.hid hR0
  have hne4 : (n : Int) - 4 = ((n - 4 : Nat) : Int) := by omega
  have hw4 : IntKind.i64.wrap ((n : Int) - 4) = (n : Int) - 4 := IntWalk.i64_in _ (by omega)
  clear hlen hb0 hb1 hS0 hD0 hX1 hX2 hF1 hF2 hSU hOne hgb hG0 hR0 hne4 hw4
  by_cases hx : X1 = n
  ·by_cases hy : X2 = SU
   ·have dc : ((X2 : Int) != (SU : Int)) = false := by simp [hy]
    have db : ((X1 : Int) != (n : Int)) = false := by simp [hx]
    have Hgb2 : Hid (getB b = partsL ((b.take (n - 4)).drop 4)) := by show _ = _; rw [Hgb.out, if_pos ⟨hx, hy⟩]
    have Hx := Lib.hid hx
    clear Hgb hx hy
    go_enter Tryz.func99, Tryz.ntmps99
    go_upto_region 6 with (fail)
    clear hW0
    go_cut [40] from 26 to 40 (fun vx wx => vx = .bool false ∧ Keep (fun k => k = w.heap.size ∨ k = w.heap.size + 1) W0 wx)
    case first Jx Kx hJx hMx =>
     refine wp_region_stages (by kernel_rfl) ?_
     refine anyOrder_start [1, 7] (Keep (fun k => k = w.heap.size ∨ k = w.heap.size + 1)) ((TwoRd w.heap.size (w.heap.size + 1) A n c b (.int .u32 (X1 : Int)) (.int .u32 (X2 : Int)) W0)) (FactsOn [.is (.pointer (some ⟨w.heap.size, 0, none⟩)), .any, .is (.int .i64 (X1 : Int)), .is (.int .i64 (n : Int)), .is (.bool false), .is (.bool false), .is (.pointer (some ⟨w.heap.size + 1, 0, none⟩)), .any, .is (.slice A n c), .is (.int .i64 (n : Int)), .is (.int .i64 ((n : Int) - 4)), .is (.slice A (n - 4) c), .is (.int .u32 (SU : Int)), .is (.bool false), .is (.bool false)]) (fun i => 99) keep_trans keep_grow (TwoRd.grow) (factsOn_mono _) (by kernel_rfl) (by kernel_rfl) ⟨Keep.refl _ _, (fun x hx => by cases hx), (fun x hx => by cases hx), (fun _ => HS0.out), (fun _ => HD0.out)⟩ ?_ ?_
     ·refine ⟨?_, ?_, ?_, ?_, ?_, ?_, ?_, ?_, ?_, ?_, ?_, ?_, ?_, ?_, ?_, trivial⟩
      ·refine sF rfl rfl ?_
       intro us vals w3 a' ha hle hW hd hv K hK
       have q5 : a'.tmps[5]? = some (.pointer (some ⟨w.heap.size, 0, none⟩)) := slot_old ha
       exact sV hK rfl
      ·refine stageOf_mem (t := 0) rfl ?_
       intro us vals w3 a' ha hle hW hd hv
       obtain ⟨d0, _⟩ := hd
       obtain rfl := List.eq_nil_of_length_eq_zero (Nat.le_zero.1 (show vals.length ≤ 0 from Nat.le_of_eq hv))
       refine ⟨wanted_none rfl, fun K hK => ?_⟩
       have q26 : a'.tmps[26]? = some (us 0) := slot_get ha 0
       rw [show us 0 = .pointer (some ⟨w.heap.size, 0, none⟩) from d0] at q26
       refine step_call (f := 101) (args := #[.pointer (some ⟨w.heap.size, 0, none⟩)]) (by go_simp) ?_
       refine (HF1.out w3 (hW.r0 rfl)).mono ?_
       rintro e w4 ⟨rfl, hk4⟩
       refine ⟨_, rfl, hK _ _ (Keep.mono hk4 (fun j hj => Or.inl (Or.inl hj))) ⟨hW.keep.trans' (Keep.mono hk4 (fun j hj => Or.inl (Or.inl hj))), (fun x hx => by injection hx with hx; exact hx.symm), (fun x hx => by cases hx), (fun h => by cases h), fun _ => (hW.r1 (Nat.zero_le _)).kept hk4 (by unfold Own1; omega) (fun h0 ad e => by have := hAlt ad e; unfold Own1; omega)⟩⟩
      ·refine sF rfl rfl ?_
       intro us vals w3 a' ha hle hW hd hv K hK
       obtain ⟨d1, _⟩ := hd
       have q27 : a'.tmps[27]? = some (us 1) := slot_get ha 1
       rw [hW.v0 _ d1] at q27
       refine step_value (v := .int .i64 (X1 : Int)) (w2 := w3) ?_ (hK _ _ (Grow.refl _) rfl)
       go_simp
       exact IntWalk.i64_in _ (by omega)
      ·refine sF rfl rfl ?_
       intro us vals w3 a' ha hle hW hd hv K hK
       have q4 : a'.tmps[4]? = some (.int .i64 (n : Int)) := slot_old ha
       exact sV hK rfl
      ·refine sF rfl rfl ?_
       intro us vals w3 a' ha hle hW hd hv K hK
       obtain ⟨d2, d3, _⟩ := hd
       have q28 : a'.tmps[28]? = some (us 2) := slot_get ha 2
       rw [show us 2 = .int .i64 (X1 : Int) from d2] at q28
       have q29 : a'.tmps[29]? = some (us 3) := slot_get ha 3
       rw [show us 3 = .int .i64 (n : Int) from d3] at q29
       exact sV (v := .bool false) hK rfl
      ·refine sF rfl rfl ?_
       intro us vals w3 a' ha hle hW hd hv K hK
       obtain ⟨d4, _, _⟩ := hd
       have q30 : a'.tmps[30]? = some (us 4) := slot_get ha 4
       rw [show us 4 = .bool false from d4] at q30
       exact sV hK rfl
      ·refine stageOf_free rfl (fun us vals w3 a' ha hd => ?_) ?_
       ·obtain ⟨d5, _⟩ := hd
        have q : a'.tmps[31]? = some (us 5) := slot_get ha 5
        rw [show us 5 = .bool false from d5] at q
        exact wanted_some rfl rfl q
       intro us vals w3 a' ha hle hW hd hv K hK
       have q6 : a'.tmps[6]? = some (.pointer (some ⟨w.heap.size + 1, 0, none⟩)) := slot_old ha
       exact sV hK rfl
      ·refine stageOf_mem (t := 1) rfl ?_
       intro us vals w3 a' ha hle hW hd hv
       obtain ⟨d6, d5, _, _⟩ := hd
       obtain ⟨x0, rfl⟩ := List.length_eq_one_iff.1 hv
       have qg : a'.tmps[31]? = some (us 5) := slot_get ha 5
       rw [show us 5 = .bool false from d5] at qg
       refine ⟨wanted_some rfl rfl qg, fun K hK => ?_⟩
       have q32 : a'.tmps[32]? = some (us 6) := slot_get ha 6
       rw [show us 6 = .pointer (some ⟨w.heap.size + 1, 0, none⟩) from d6] at q32
       refine step_call (f := 101) (args := #[.pointer (some ⟨w.heap.size + 1, 0, none⟩)]) (by go_simp) ?_
       refine (HF2.out w3 (hW.r1 (Nat.le_refl _))).mono ?_
       rintro e w4 ⟨rfl, hk4⟩
       refine ⟨_, rfl, hK _ _ (Keep.mono hk4 (fun j hj => Or.inl (Or.inr hj))) ⟨hW.keep.trans' (Keep.mono hk4 (fun j hj => Or.inl (Or.inr hj))), (fun x hx => hW.v0 x hx), (fun x hx => by injection hx with hx; exact hx.symm), (fun h => by simp at h), (fun h => by simp at h)⟩⟩
      ·refine stageOf_free rfl (fun us vals w3 a' ha hd => ?_) ?_
       ·obtain ⟨d5, _⟩ := hd
        have q : a'.tmps[31]? = some (us 5) := slot_get ha 5
        rw [show us 5 = .bool false from d5] at q
        exact wanted_some rfl rfl q
       intro us vals w3 a' ha hle hW hd hv K hK
       have q0 : a'.tmps[0]? = some (.slice A n c) := slot_old ha
       exact sV hK rfl
      ·refine stageOf_free rfl (fun us vals w3 a' ha hd => ?_) ?_
       ·obtain ⟨d5, _⟩ := hd
        have q : a'.tmps[31]? = some (us 5) := slot_get ha 5
        rw [show us 5 = .bool false from d5] at q
        exact wanted_some rfl rfl q
       intro us vals w3 a' ha hle hW hd hv K hK
       have q4 : a'.tmps[4]? = some (.int .i64 (n : Int)) := slot_old ha
       exact sV hK rfl
      ·refine stageOf_free rfl (fun us vals w3 a' ha hd => ?_) ?_
       ·obtain ⟨_, d5, _⟩ := hd
        have q : a'.tmps[31]? = some (us 5) := slot_get ha 5
        rw [show us 5 = .bool false from d5] at q
        exact wanted_some rfl rfl q
       intro us vals w3 a' ha hle hW hd hv K hK
       obtain ⟨d9, _, _⟩ := hd
       have q35 : a'.tmps[35]? = some (us 9) := slot_get ha 9
       rw [show us 9 = .int .i64 (n : Int) from d9] at q35
       refine step_value (v := .int .i64 ((n : Int) - 4)) (w2 := w3) ?_ (hK _ _ (Grow.refl _) rfl)
       go_simp
       exact IntWalk.i64_in _ (by omega)
      ·refine stageOf_free rfl (fun us vals w3 a' ha hd => ?_) ?_
       ·obtain ⟨_, _, d5, _⟩ := hd
        have q : a'.tmps[31]? = some (us 5) := slot_get ha 5
        rw [show us 5 = .bool false from d5] at q
        exact wanted_some rfl rfl q
       intro us vals w3 a' ha hle hW hd hv K hK
       obtain ⟨d8, d10, _, _⟩ := hd
       have q34 : a'.tmps[34]? = some (us 8) := slot_get ha 8
       rw [show us 8 = .slice A n c from d8] at q34
       have q36 : a'.tmps[36]? = some (us 10) := slot_get ha 10
       rw [show us 10 = .int .i64 ((n : Int) - 4) from d10] at q36
       exact step_cut_head bytesTy rfl q34 q36 (n - 4) (by omega) (by omega) (hK _ _ (Grow.refl _) rfl)
      ·refine stageOf_free rfl (fun us vals w3 a' ha hd => ?_) ?_
       ·obtain ⟨_, _, d5, _⟩ := hd
        have q : a'.tmps[31]? = some (us 5) := slot_get ha 5
        rw [show us 5 = .bool false from d5] at q
        exact wanted_some rfl rfl q
       intro us vals w3 a' ha hle hW hd hv K hK
       obtain ⟨d11, _, _, _⟩ := hd
       have q37 : a'.tmps[37]? = some (us 11) := slot_get ha 11
       rw [show us 11 = .slice A (n - 4) c from d11] at q37
       refine step_call (f := 43) (args := #[.slice A (n - 4) c]) (by go_simp) ?_
       refine (HOne.out w3 hW.keep).mono ?_
       rintro e w4 ⟨rfl, rfl⟩
       exact ⟨_, rfl, hK _ _ (Grow.refl _) rfl⟩
      ·refine stageOf_free rfl (fun us vals w3 a' ha hd => ?_) ?_
       ·obtain ⟨_, _, d5, _⟩ := hd
        have q : a'.tmps[31]? = some (us 5) := slot_get ha 5
        rw [show us 5 = .bool false from d5] at q
        exact wanted_some rfl rfl q
       intro us vals w3 a' ha hle hW hd hv K hK
       obtain ⟨d7, d12, _, _⟩ := hd
       have q33 : a'.tmps[33]? = some (us 7) := slot_get ha 7
       have q38 : a'.tmps[38]? = some (us 12) := slot_get ha 12
       rw [show us 12 = .int .u32 (SU : Int) from d12] at q38
       rw [hW.v1 _ d7] at q33
       exact sV (v := .bool false) hK rfl
      ·refine sF rfl rfl ?_
       intro us vals w3 a' ha hle hW hd hv K hK
       obtain ⟨d5, d13, _⟩ := hd
       have q31 : a'.tmps[31]? = some (us 5) := slot_get ha 5
       rw [show us 5 = .bool false from d5] at q31
       have q39 : a'.tmps[39]? = some (us 13) := slot_get ha 13
       rw [show us 13 = .bool false from d13] at q39
       exact sV (v := .bool false) hK rfl
     ·intro us vals w3 hle hvl hV _ hf
      exact hMx _ _ (Met.intro (hJx _ _ ⟨us 0, us 1, us 2, us 3, us 4, us 5, us 6, us 7, us 8, us 9, us 10, us 11, us 12, us 13, us 14, ⟨hf 14 (by decide) rfl, hV.keep⟩, by kernel_rfl⟩))
    case rest =>
     obtain ⟨rfl, hk6⟩ := hcut
     obtain ⟨W6, rfl⟩ : ∃ W6 : World, W6 = wc := ⟨_, rfl⟩
     have hG6 : Grow w W6 := Below.trans HG0.out (hk6.below (fun k hk => by omega) (by have := HG0.out.size; omega))
     have hR6 : BytesAt W6 W6.heap.size A n b := (hR.below (Below.mono hG6 hB)).more (Nat.le_trans hB hG6.size)
     obtain ⟨L, hL⟩ : ∃ L, L = b.take (n - 4) := ⟨_, rfl⟩
     have hLl : L.length = n - 4 := by rw [hL, List.length_take, Hlen.out]; omega
     rw [← hL] at Hgb2
     have hG7 : Grow w (W6.alloc (.cells #[.slice A (n - 4) c, .int .i64 4, .bool false] 167)) := hG6.trans (Grow.alloc _ _)
     have hRd : Rdd (W6.alloc (.cells #[.slice A (n - 4) c, .int .i64 4, .bool false] 167)) W6.heap.size A (n - 4) c L 4 false :=
      ⟨Blk.new _ _ _, by rw [hL]; exact ((hR6.head (n - 4) (by omega)).below (Grow.alloc _ _)).more (by simp), fun _ ad e => by have := hAlt ad e; have := hG6.size; omega, by omega, hc, by omega⟩
     have hcut := fun W => run_cut_head bytesTy A n c (n - 4) .i64 ((n : Int) - 4) (by omega) (by omega) W
     have hRz : w.heap.size ≤ W6.heap.size := hG6.size
     obtain ⟨R, hRR⟩ : ∃ R, R = W6.heap.size := ⟨_, rfl⟩
     have HLl := Lib.hid hLl
     have HG7 := Lib.hid hG7
     have HRd := Lib.hid hRd
     have HP0 := Lib.hid (PartsOwn.nil w.heap.size (W6.alloc (.cells #[.slice A (n - 4) c, .int .i64 4, .bool false] 167)))
     clear hk6 hG6 hR6 hL hLl hG7 hRd
     go_wp2_with fail
     rw [← hRR] at HRd ⊢
     rw [← hRR] at hRz
     clear hcut hRR
     go_loopw [8] (fun v8 wr => ∃ (ts : List PartM) (vs : List Value) (at_ : Nat), ts.length ≤ at_ ∧ at_ ≤ n - 4 ∧ Hid (PartsOwn w.heap.size wr v8 ts vs) ∧ Hid (Rdd wr R A (n - 4) c L at_ false) ∧ Hid (Grow w wr) ∧ Hid (partsL (L.drop 4) = (partsL (L.drop at_)).map (ts ++ ·))) (fun _ wr => n - atOf R wr)
     case atStart => exact ⟨[], [], 4, by simp, by omega, HP0, HRd, HG7, by show _ = _; cases partsL (L.drop 4) <;> simp⟩
     case round =>
      clear HP0 HRd HG7
      obtain ⟨ts, vs, at_, hta, hat, hP, hRd, hG, hpl⟩ := hrel
      have hcR0 := hRd.out.cell.cell 0
      have hcR1 := hRd.out.cell.cell 1
      have hfR1 := hRd.out.cell.frozen 1
      have hbR := hRd.out.cell
      have hRlt := hRd.out.cell.lt
      have hAof := Lib.hid hRd.out.atOf
      obtain ⟨A8, c8, rfl, -, -, -⟩ := own_reads hP.out.own
      by_cases hlt : at_ < n - 4
      ·have dl : decide ((at_ : Int) < ((n - 4 : Nat) : Int)) = true := decide_eq_true (by omega)
       obtain ⟨tag, htag⟩ : ∃ tag, L[at_]? = some tag := ⟨_, List.getElem?_eq_getElem (by rw [HLl.out]; exact hlt)⟩
       obtain ⟨bb, off, rfl, hbl, hbc⟩ := hRd.out.reads.at_ (by omega)
       have hct := hbc at_ tag htag
       have Htag := Lib.hid htag
       clear htag hbc
       go_wp2_with fail
       go_quiet (fail)
       go_wp2
       obtain ⟨Wq, hWq⟩ : ∃ Wq, Wq = wr.drewN nq := ⟨_, rfl⟩
       have hGq : Grow wr Wq := by rw [hWq]; exact Grow.drewN _ _
       rw [← hWq]
       clear hWq
       have hbR := hGq.blkOf hbR
       have hct : Wq.cell? ⟨bb, off + at_, none⟩ = some (.int .u8 (tag.toNat : Int)) := (hGq.cell (p := ⟨bb, off + at_, none⟩) hbl).trans hct
       have hbl : bb < Wq.heap.size := Nat.lt_of_lt_of_le hbl hGq.size
       have hRlt := hbR.lt
       clear hcR0 hcR1 hfR1
       go_cut [9] from 57 to 67 (fun v9 wx => ∃ m, v9 = .pointer (some ⟨m, 0, none⟩) ∧ Wq.heap.size ≤ m ∧ Blk wx m 40 #[.int .u8 (tag.toNat : Int), .slice none 0 0] ∧ Grow Wq wx)
       case first Jx Kx hJx hMx =>
        refine wp_region_stages (by kernel_rfl) ?_
        refine anyOrder_start [11, 12] (Keep (NewS Wq.heap.size)) ((PartW Wq tag)) (FactsOn [.is (.pointer (some ⟨R, 0, none⟩)), .is (.pointer (some ⟨R, 0, none⟩)), .is (.pointer (some ⟨R, 0, none⟩)), .is (.slice (some ⟨bb, off, none⟩) (n - 4) c), .is (.pointer (some ⟨R, 0, none⟩)), .is (.pointer (some ⟨R, 0, none⟩)), .is (.pointer (some ⟨R, 1, none⟩)), .is (.int .i64 (at_ : Int)), .is (.pointer (some ⟨bb, off + at_, none⟩)), .is (.int .u8 (tag.toNat : Int)), .is (.agg #[.int .u8 (tag.toNat : Int), .slice none 0 0]), .any, .any]) (fun i => 99) keep_trans keep_grow (PartW.grow) (factsOn_mono _) (by kernel_rfl) (by kernel_rfl) (Grow.refl _) ?_ ?_
        ·refine ⟨?_, ?_, ?_, ?_, ?_, ?_, ?_, ?_, ?_, ?_, ?_, ?_, ?_, trivial⟩
         ·refine sF rfl rfl ?_
          intro us vals w3 a' ha hle hW hd hv K hK
          have q7 : a'.tmps[7]? = some (.pointer (some ⟨R, 0, none⟩)) := slot_old ha
          exact sV hK rfl
         ·refine sF rfl rfl ?_
          intro us vals w3 a' ha hle hW hd hv K hK
          obtain ⟨d0, _⟩ := hd
          have q57 : a'.tmps[57]? = some (us 0) := slot_get ha 0
          rw [show us 0 = .pointer (some ⟨R, 0, none⟩) from d0] at q57
          exact sV (v := .pointer (some ⟨R, 0, none⟩)) hK rfl
         ·refine sF rfl rfl ?_
          intro us vals w3 a' ha hle hW hd hv K hK
          obtain ⟨d1, _⟩ := hd
          have q58 : a'.tmps[58]? = some (us 1) := slot_get ha 1
          rw [show us 1 = .pointer (some ⟨R, 0, none⟩) from d1] at q58
          exact sV (v := .pointer (some ⟨R, 0, none⟩)) hK rfl
         ·refine sF rfl rfl ?_
          intro us vals w3 a' ha hle hW hd hv K hK
          obtain ⟨d2, _⟩ := hd
          have q59 : a'.tmps[59]? = some (us 2) := slot_get ha 2
          rw [show us 2 = .pointer (some ⟨R, 0, none⟩) from d2] at q59
          have hc := (hle.blk hbR (fun h => by unfold NewS at h; omega)).cell 0
          exact sV (v := .slice (some ⟨bb, off, none⟩) (n - 4) c) hK rfl
         ·refine sF rfl rfl ?_
          intro us vals w3 a' ha hle hW hd hv K hK
          have q7 : a'.tmps[7]? = some (.pointer (some ⟨R, 0, none⟩)) := slot_old ha
          exact sV hK rfl
         ·refine sF rfl rfl ?_
          intro us vals w3 a' ha hle hW hd hv K hK
          obtain ⟨d4, _⟩ := hd
          have q61 : a'.tmps[61]? = some (us 4) := slot_get ha 4
          rw [show us 4 = .pointer (some ⟨R, 0, none⟩) from d4] at q61
          exact sV (v := .pointer (some ⟨R, 0, none⟩)) hK rfl
         ·refine sF rfl rfl ?_
          intro us vals w3 a' ha hle hW hd hv K hK
          obtain ⟨d5, _⟩ := hd
          have q62 : a'.tmps[62]? = some (us 5) := slot_get ha 5
          rw [show us 5 = .pointer (some ⟨R, 0, none⟩) from d5] at q62
          exact sV (v := .pointer (some ⟨R, 1, none⟩)) hK rfl
         ·refine sF rfl rfl ?_
          intro us vals w3 a' ha hle hW hd hv K hK
          obtain ⟨d6, _⟩ := hd
          have q63 : a'.tmps[63]? = some (us 6) := slot_get ha 6
          rw [show us 6 = .pointer (some ⟨R, 1, none⟩) from d6] at q63
          have hc := (hle.blk hbR (fun h => by unfold NewS at h; omega)).cell 1
          exact sV (v := .int .i64 (at_ : Int)) hK rfl
         ·refine sF rfl rfl ?_
          intro us vals w3 a' ha hle hW hd hv K hK
          obtain ⟨d3, d7, _⟩ := hd
          have q60 : a'.tmps[60]? = some (us 3) := slot_get ha 3
          rw [show us 3 = .slice (some ⟨bb, off, none⟩) (n - 4) c from d3] at q60
          have q64 : a'.tmps[64]? = some (us 7) := slot_get ha 7
          rw [show us 7 = .int .i64 (at_ : Int) from d7] at q64
          refine step_value (v := .pointer (some ⟨bb, off + at_, none⟩)) (w2 := w3) ?_ (hK _ _ (Grow.refl _) rfl)
          go_simp
          (try (intro h; omega))
         ·refine sF rfl rfl ?_
          intro us vals w3 a' ha hle hW hd hv K hK
          obtain ⟨d8, _⟩ := hd
          have q65 : a'.tmps[65]? = some (us 8) := slot_get ha 8
          rw [show us 8 = .pointer (some ⟨bb, off + at_, none⟩) from d8] at q65
          have hc : w3.cell? ⟨bb, off + at_, none⟩ = some (.int .u8 (tag.toNat : Int)) := (hle.cell (p := ⟨bb, off + at_, none⟩) hbl (fun h => by unfold NewS at h; exact absurd hbl (Nat.not_lt.2 h))).trans hct
          exact sV (v := .int .u8 (tag.toNat : Int)) hK rfl
         ·refine sF rfl rfl ?_
          intro us vals w3 a' ha hle hW hd hv K hK
          obtain ⟨d9, _⟩ := hd
          have q66 : a'.tmps[66]? = some (us 9) := slot_get ha 9
          rw [show us 9 = .int .u8 (tag.toNat : Int) from d9] at q66
          exact sV (v := .agg #[.int .u8 (tag.toNat : Int), .slice none 0 0]) hK rfl
         ·refine stageOf_mem (t := 0) rfl ?_
          intro us vals w3 a' ha hle hW hd hv
          obtain rfl := List.eq_nil_of_length_eq_zero (Nat.le_zero.1 (show vals.length ≤ 0 from Nat.le_of_eq hv))
          refine ⟨wanted_none rfl, fun K hK => ?_⟩
          exact step_value (v := .pointer (some ⟨w3.heap.size, 0, none⟩)) (w2 := w3.alloc (.cells #[.int .u8 0, .slice none 0 0] 40)) (by go_simp) (hK _ _ (Keep.alloc _ _) ⟨w3.heap.size, rfl, hW.size, Blk.new _ _ _, Grow.trans hW (Grow.alloc _ _)⟩)
         ·refine stageOf_mem (t := 1) rfl ?_
          intro us vals w3 a' ha hle hW hd hv
          obtain ⟨d11, d10, _, _, _, _, _, _, _, _, _, _, _, _, _⟩ := hd
          obtain ⟨x0, rfl⟩ := List.length_eq_one_iff.1 hv
          obtain rfl : us 11 = x0 := by have h0 : some x0 = some (us 11) := d11; injection h0 with h0; exact h0.symm
          refine ⟨wanted_none rfl, fun K hK => ?_⟩
          have q9 : a'.tmps[9]? = some (us 11) := slot_get ha 11
          have q67 : a'.tmps[67]? = some (us 10) := slot_get ha 10
          rw [show us 10 = .agg #[.int .u8 (tag.toNat : Int), .slice none 0 0] from d10] at q67
          obtain ⟨m, hm1, hm2, hm3, hm4⟩ := hW
          rw [hm1] at q9
          refine wp_store_mid 40 (.tmp 9) (.tmp 67) rfl m 0 #[.int .u8 (tag.toNat : Int), .slice none 0 0] (evalT q9) (evalT q67) (fun j hj => ?_) (by kernel_rfl) (by simp [Value.oneCell']) ?_
          ·rw [hm3.cell]
           have hj : j < 2 := hj
           refine ⟨?_, hm3.frozen _⟩
           match j, hj with
           | 0, _ | 1, _ => rfl
          ·have hs := setCells_keep m [Value.int .u8 (tag.toNat : Int), .slice none 0 0] w3 0
           have hb := setCells_blk [Value.int .u8 (tag.toNat : Int), .slice none 0 0] (w := w3) (b := m) (t := 40) (L := [.int .u8 0, .slice none 0 0]) hm3 0
           exact hK _ _ (Keep.mono hs (fun j hj => Or.inl (by unfold NewS; omega))) ⟨m, hm1, hm2, hb, Below.trans hm4 (hs.below (fun j hj => by omega) hm4.size)⟩
        ·intro us vals w3 hle hvl hV hch hf
         obtain ⟨x1, x2, rfl⟩ : ∃ x1 x2, vals = [x1, x2] := by
          match vals, hvl with
          | [a, b], _ => exact ⟨a, b, rfl⟩
         obtain ⟨m, h1, h2, h3, h4⟩ := hV
         have h5 : x1 = us 11 := by have h := hch 0 (by simp); injection h
         exact hMx _ _ (Met.intro (hJx _ _ ⟨us 11, us 0, us 1, us 2, us 3, us 4, us 5, us 6, us 7, us 8, us 9, us 10, ⟨m, h5.symm.trans h1, h2, h3, h4⟩, by kernel_rfl⟩))
       case rest =>
        obtain ⟨m, rfl, hm, hbm, hgm⟩ := hcut
        obtain ⟨W8, rfl⟩ : ∃ W8 : World, W8 = wc := ⟨_, rfl⟩
        have hg8 : Grow wr W8 := hGq.trans hgm
        have hmw : wr.heap.size ≤ m := Nat.le_trans hGq.size hm
        have hRd8 := hRd.out.grow hg8
        have hgo := hRd8.go (at_ + 1) (by omega)
        have eat : ((at_ + 1 : Nat) : Int) = (at_ : Int) + 1 := by omega
        rw [eat] at hgo
        have hcR1 := hRd8.cell.cell 1
        have hfR1 := hRd8.cell.frozen 1
        have hmR : m ≠ R := by omega
        have hbm8 : Blk (W8.setCell ⟨R, 1, none⟩ (.int .i64 ((at_ : Int) + 1))) m 40 #[.int .u8 (tag.toNat : Int), .slice none 0 0] := hgo.2.blk hbm hmR
        have hdrop : L.drop at_ = tag :: L.drop (at_ + 1) := by
         rw [List.drop_eq_getElem_cons (by rw [HLl.out]; exact hlt)]
         congr 1
         have h1 := Htag.out
         rw [List.getElem?_eq_getElem (by rw [HLl.out]; exact hlt)] at h1
         injection h1
        have hcall := dText_any _ R _ (n - 4) c L (at_ + 1) false 67108864 hgo.1 (by omega)
        obtain ⟨T, hT⟩ : ∃ T, T = text 67108864 (ddSt L (at_ + 1) false) := ⟨_, rfl⟩
        rw [← hT] at hcall
        obtain ⟨xb, st⟩ := T
        have HT := Lib.hid (show text 67108864 (some (L.drop (at_ + 1))) = (xb, st) from hT.symm)
        have Hcall := Lib.hid hcall
        have Hgo := Lib.hid hgo
        have Hbm8 := Lib.hid hbm8
        have Hdrop := Lib.hid hdrop
        have Hg8 := Lib.hid hg8
        have hz8 := hg8.size
        clear hgo eat hbm8 hdrop hcall hT hRd8 hg8 hbm hgm hGq
        go_wp2_with fail
        refine Hcall.out.mono ?_
        rintro e W9 ⟨r, Bx, rfl, hBx, hown9, at2, bad2, hRd9, hst9, hk9⟩
        have hBx2 : wr.heap.size ≤ Bx := by have := Hgo.out.2.size; omega
        have hk89 : Keep (Own1 R) W8 W9 := Hgo.out.2.trans' hk9
        have hbm9 := hk9.blk Hbm8.out hmR
        have hcm0 := hbm9.cell 0
        have hcm1 := hbm9.cell 1
        have hfm1 := hbm9.frozen 1
        obtain ⟨A9, c9, rfl, -, -, -⟩ := own_reads hown9
        obtain ⟨xl, hxl⟩ : ∃ xl, xl = xb.length := ⟨_, rfl⟩
        have hbR9 : Blk (W9.setCell ⟨m, 1, none⟩ (.slice A9 xb.length c9)) R 167 #[.slice (some ⟨bb, off, none⟩) (n - 4) c, .int .i64 (at2 : Int), .bool bad2] := hRd9.cell.far (p := ⟨m, 1, none⟩) (fun h => hmR h.symm) _
        have hcb2 := hbR9.cell 2
        have hmlt := hbm9.lt
        have hbmA := hbm9.set 1 (.slice A9 xb.length c9)
        have hcA0 := hbmA.cell 0
        have hcA1 := hbmA.cell 1
        have hkm : Keep (fun j => j = m) W9 (W9.setCell ⟨m, 1, none⟩ (.slice A9 xb.length c9)) := Keep.setCell W9 ⟨m, 1, none⟩ _
        have hkA : Keep (Own1 R) wr (W9.setCell ⟨m, 1, none⟩ (.slice A9 xb.length c9)) := ((Keep.grow Hg8.out).trans' hk89).trans hkm (fun j hj => Or.inr (by rw [hj]; exact hmw))
        have Hown9 := Lib.hid hown9
        have Hbm9 := Lib.hid hbm9
        have HRd9 := Lib.hid hRd9
        have Hst9 := Lib.hid hst9
        have Hkm := Lib.hid hkm
        have HkA := Lib.hid hkA
        have HbmA := Lib.hid hbmA
        have Hle2 := Lib.hid hRd9.le
        clear hown9 hRd9 hst9 hkm hkA hbmA hbm9 hk89 hk9 hxl
        cases bad2 with
        | true =>
         have hno : getB b = none := by
          have h1 : st = none := by rw [← Hst9.out]; rfl
          have h2 := HT.out
          rw [h1] at h2
          rw [Hgb2.out, hpl.out, Hdrop.out, partsL_no h2]
          rfl
         have Hno := Lib.hid hno
         clear hno
         go_wp2
         go_ret2
         exact Or.inr ⟨Hno.out, rfl, Below.trans hG.out (HkA.out.below (fun j hj => by rw [show j = R from hj]; exact hRz) hG.out.size)⟩
        | false =>
         have hst2 : st = some (L.drop at2) := by rw [← Hst9.out]; rfl
         have hpl2 : partsL (L.drop 4) = (partsL (L.drop at2)).map ((ts ++ [⟨tag, xb⟩]) ++ ·) := by
          have h2 := HT.out
          rw [hst2] at h2
          rw [hpl.out, Hdrop.out, partsL_yes h2, Option.map_map]
          congr 1
          funext x
          simp
         have hless : at_ + 1 < at2 := by
          have h2 := HT.out
          rw [hst2] at h2
          have h3 := text_less h2
          rw [List.length_drop, List.length_drop, HLl.out] at h3
          have := Hle2.out
          omega
         have Hpl2 := Lib.hid hpl2
         clear hst2 hpl2
         have partTy : AppTy Tryz.prog 41 40 (.agg #[.int .u8 0, .slice none 0 0]) 2 32 := AppTy.mk' Tryz.underlying41 (by kernel_rfl) rfl (by decide)
         obtain ⟨WA, hWA⟩ : ∃ WA, W9.setCell ⟨m, 1, none⟩ (.slice A9 xb.length c9) = WA := ⟨_, rfl⟩
         rw [hWA] at Hkm HkA HbmA hbR9 hcb2 hcA0 hcA1
         have hPA := hP.out.kept HkA.out fun k hk cs u hu => by
          rw [show k = R from hk, show wr.heap[R]? = _ from hRd.out.cell] at hu
          cases hu
          decide
         have hownA := Hkm.out.own Hown9.out fun k hk hs => by
          obtain ⟨cur, q⟩ := own_obj Hown9.out hk
          rw [show k = m from hs, show W9.heap[m]? = _ from Hbm9.out] at q
          cases q
         have hgW := Grow.alloc WA (.cells #[.int .u8 (tag.toNat : Int), .slice A9 xb.length c9] 40)
         have hrd3 := ReadsAt.madeS WA 40 2 [.int .u8 (tag.toNat : Int), .slice A9 xb.length c9] rfl
         have hPB := hPA.grow hgW
         have hownB := own_below hownA hgW
         have hzA : wr.heap.size ≤ WA.heap.size := HkA.out.size
         have hGz := hG.out.size
         have hzB : w.heap.size ≤ (WA.alloc (.cells #[.int .u8 (tag.toNat : Int), .slice A9 xb.length c9] 40)).heap.size := by have := hgW.size; omega
         have hnew : ∀ (j : Nat) (y : Value) (k : Nat), vs[j]? = some y → y.ownBlock = some k → k < Bx := fun j y k hy hk => by have := (hP.out.lt hy hk).2; omega
         have hRd2 : Rdd WA R (some ⟨bb, off, none⟩) (n - 4) c L at2 false := by
          have h1 := HRd9.out.kept Hkm.out (fun h => hmR h.symm) (fun h0 ad e h => by injection e with e; rw [← e] at h; have h2 : bb = m := h; omega)
          exact h1
         have hRdB := hRd2.grow hgW
         have htl : ts.length + 1 ≤ 67108864 := by omega
         have HPB := Lib.hid hPB
         have HownB := Lib.hid hownB
         have Hrd3 := Lib.hid hrd3
         have HRdB := Lib.hid hRdB
         have HgW := Lib.hid hgW
         clear hPA hownA hPB hownB hrd3 hRd2 hRdB hgW
         go_wp2_with (at_builtin; refine wpList_append_reads _ rfl (.tmp 82) (.tmp 84) rfl partTy rfl HPB.out.own rfl Hrd3.out (by simp [Value.oneCell']) (by simp only [maxLen]; omega) (by omega) hzB ?_; intro v' wq hown4 hgrow4 hat4)
         have hP4 := HPB.out.snoc (t := ⟨tag, xb⟩) HownB.out (Nat.le_trans hGz hBx2) hnew hown4 hgrow4
         have hRd4 := HRdB.out.kept (Keep.grown hgrow4) (fun h => by
          obtain ⟨cur, q⟩ := own_obj HPB.out.own h
          rw [show (WA.alloc _).heap[R]? = _ from HRdB.out.cell] at q
          cases q) (fun h0 ad e h => by
          injection e with e
          rw [← e] at h
          have h1 := (HPB.out.own.lt _ h).1
          have h2 := hAlt _ rfl
          simp only at h1 h2
          omega)
         have hkq : Keep (fun k => (Value.slice A8 ts.length c8).ownBlock = some k) (WA.alloc (.cells #[.int .u8 (tag.toNat : Int), .slice A9 xb.length c9] 40)) wq := Keep.grown hgrow4
         have hGq : Grow w wq := Below.trans (Below.trans hG.out (HkA.out.below (fun j hj => by rw [show j = R from hj]; exact hRz) hG.out.size)) (Below.trans (Below.mono HgW.out (by omega)) (hkq.below (fun j hj => (HPB.out.own.lt j hj).1) hzB))
         have HP4 := Lib.hid hP4
         have HRd4 := Lib.hid hRd4
         have HGq := Lib.hid hGq
         have hm1 := hRd4.atOf
         have hm2 := hAof.out
         have Hm1 := Lib.hid hm1
         clear hP4 hRd4 hkq hGq hown4 hgrow4 hat4 hm1 hm2
         go_wp2
         go_roundw
         case rel => exact ⟨ts ++ [⟨tag, xb⟩], vs ++ [_], at2, by simp; omega, Hle2.out, HP4, HRd4, HGq, Hpl2⟩
         case measure =>
          have h1 := Hm1.out
          have h2 := hAof.out
          have h3 := Hle2.out
          rw [h1, h2]
          omega
      ·obtain rfl : at_ = n - 4 := by omega
       have dl : decide (((n - 4 : Nat) : Int) < ((n - 4 : Nat) : Int)) = false := by simp
       have hfin : partsL (L.drop 4) = some ts := by
        rw [hpl.out, List.drop_eq_nil_of_le (by rw [HLl.out]; exact Nat.le_refl _), partsL_nil]
        simp
       have Hfin := Lib.hid (Hgb2.out.trans hfin)
       clear hfin
       go_wp2_with fail
       go_quiet (fail)
       go_wp2
       go_ret2
       exact Or.inl ⟨ts, .slice A8 ts.length c8, vs, Hfin.out, rfl, hP.out.grow (Grow.drewN _ _), hG.out.trans (Grow.drewN _ _)⟩
   ·have db : ((X1 : Int) != (n : Int)) = false := by simp [hx]
    have dc : ((X2 : Int) != (SU : Int)) = true := by simp; omega
    have Hgb2 : Hid (getB b = none) := by show _ = _; rw [Hgb.out, if_neg fun h => hy h.2]
    have Hx := Lib.hid hx
    clear Hgb hx hy
    go_enter Tryz.func99, Tryz.ntmps99
    go_upto_region 6 with (fail)
    clear hW0
    go_cut [40] from 26 to 40 (fun vx wx => vx = .bool true ∧ Keep (fun k => k = w.heap.size ∨ k = w.heap.size + 1) W0 wx)
    case first Jx Kx hJx hMx =>
     refine wp_region_stages (by kernel_rfl) ?_
     refine anyOrder_start [1, 7] (Keep (fun k => k = w.heap.size ∨ k = w.heap.size + 1)) ((TwoRd w.heap.size (w.heap.size + 1) A n c b (.int .u32 (X1 : Int)) (.int .u32 (X2 : Int)) W0)) (FactsOn [.is (.pointer (some ⟨w.heap.size, 0, none⟩)), .any, .is (.int .i64 (X1 : Int)), .is (.int .i64 (n : Int)), .is (.bool false), .is (.bool false), .is (.pointer (some ⟨w.heap.size + 1, 0, none⟩)), .any, .is (.slice A n c), .is (.int .i64 (n : Int)), .is (.int .i64 ((n : Int) - 4)), .is (.slice A (n - 4) c), .is (.int .u32 (SU : Int)), .is (.bool true), .is (.bool true)]) (fun i => 99) keep_trans keep_grow (TwoRd.grow) (factsOn_mono _) (by kernel_rfl) (by kernel_rfl) ⟨Keep.refl _ _, (fun x hx => by cases hx), (fun x hx => by cases hx), (fun _ => HS0.out), (fun _ => HD0.out)⟩ ?_ ?_
     ·refine ⟨?_, ?_, ?_, ?_, ?_, ?_, ?_, ?_, ?_, ?_, ?_, ?_, ?_, ?_, ?_, trivial⟩
      ·refine sF rfl rfl ?_
       intro us vals w3 a' ha hle hW hd hv K hK
       have q5 : a'.tmps[5]? = some (.pointer (some ⟨w.heap.size, 0, none⟩)) := slot_old ha
       exact sV hK rfl
      ·refine stageOf_mem (t := 0) rfl ?_
       intro us vals w3 a' ha hle hW hd hv
       obtain ⟨d0, _⟩ := hd
       obtain rfl := List.eq_nil_of_length_eq_zero (Nat.le_zero.1 (show vals.length ≤ 0 from Nat.le_of_eq hv))
       refine ⟨wanted_none rfl, fun K hK => ?_⟩
       have q26 : a'.tmps[26]? = some (us 0) := slot_get ha 0
       rw [show us 0 = .pointer (some ⟨w.heap.size, 0, none⟩) from d0] at q26
       refine step_call (f := 101) (args := #[.pointer (some ⟨w.heap.size, 0, none⟩)]) (by go_simp) ?_
       refine (HF1.out w3 (hW.r0 rfl)).mono ?_
       rintro e w4 ⟨rfl, hk4⟩
       refine ⟨_, rfl, hK _ _ (Keep.mono hk4 (fun j hj => Or.inl (Or.inl hj))) ⟨hW.keep.trans' (Keep.mono hk4 (fun j hj => Or.inl (Or.inl hj))), (fun x hx => by injection hx with hx; exact hx.symm), (fun x hx => by cases hx), (fun h => by cases h), fun _ => (hW.r1 (Nat.zero_le _)).kept hk4 (by unfold Own1; omega) (fun h0 ad e => by have := hAlt ad e; unfold Own1; omega)⟩⟩
      ·refine sF rfl rfl ?_
       intro us vals w3 a' ha hle hW hd hv K hK
       obtain ⟨d1, _⟩ := hd
       have q27 : a'.tmps[27]? = some (us 1) := slot_get ha 1
       rw [hW.v0 _ d1] at q27
       refine step_value (v := .int .i64 (X1 : Int)) (w2 := w3) ?_ (hK _ _ (Grow.refl _) rfl)
       go_simp
       exact IntWalk.i64_in _ (by omega)
      ·refine sF rfl rfl ?_
       intro us vals w3 a' ha hle hW hd hv K hK
       have q4 : a'.tmps[4]? = some (.int .i64 (n : Int)) := slot_old ha
       exact sV hK rfl
      ·refine sF rfl rfl ?_
       intro us vals w3 a' ha hle hW hd hv K hK
       obtain ⟨d2, d3, _⟩ := hd
       have q28 : a'.tmps[28]? = some (us 2) := slot_get ha 2
       rw [show us 2 = .int .i64 (X1 : Int) from d2] at q28
       have q29 : a'.tmps[29]? = some (us 3) := slot_get ha 3
       rw [show us 3 = .int .i64 (n : Int) from d3] at q29
       exact sV (v := .bool false) hK rfl
      ·refine sF rfl rfl ?_
       intro us vals w3 a' ha hle hW hd hv K hK
       obtain ⟨d4, _, _⟩ := hd
       have q30 : a'.tmps[30]? = some (us 4) := slot_get ha 4
       rw [show us 4 = .bool false from d4] at q30
       exact sV hK rfl
      ·refine stageOf_free rfl (fun us vals w3 a' ha hd => ?_) ?_
       ·obtain ⟨d5, _⟩ := hd
        have q : a'.tmps[31]? = some (us 5) := slot_get ha 5
        rw [show us 5 = .bool false from d5] at q
        exact wanted_some rfl rfl q
       intro us vals w3 a' ha hle hW hd hv K hK
       have q6 : a'.tmps[6]? = some (.pointer (some ⟨w.heap.size + 1, 0, none⟩)) := slot_old ha
       exact sV hK rfl
      ·refine stageOf_mem (t := 1) rfl ?_
       intro us vals w3 a' ha hle hW hd hv
       obtain ⟨d6, d5, _, _⟩ := hd
       obtain ⟨x0, rfl⟩ := List.length_eq_one_iff.1 hv
       have qg : a'.tmps[31]? = some (us 5) := slot_get ha 5
       rw [show us 5 = .bool false from d5] at qg
       refine ⟨wanted_some rfl rfl qg, fun K hK => ?_⟩
       have q32 : a'.tmps[32]? = some (us 6) := slot_get ha 6
       rw [show us 6 = .pointer (some ⟨w.heap.size + 1, 0, none⟩) from d6] at q32
       refine step_call (f := 101) (args := #[.pointer (some ⟨w.heap.size + 1, 0, none⟩)]) (by go_simp) ?_
       refine (HF2.out w3 (hW.r1 (Nat.le_refl _))).mono ?_
       rintro e w4 ⟨rfl, hk4⟩
       refine ⟨_, rfl, hK _ _ (Keep.mono hk4 (fun j hj => Or.inl (Or.inr hj))) ⟨hW.keep.trans' (Keep.mono hk4 (fun j hj => Or.inl (Or.inr hj))), (fun x hx => hW.v0 x hx), (fun x hx => by injection hx with hx; exact hx.symm), (fun h => by simp at h), (fun h => by simp at h)⟩⟩
      ·refine stageOf_free rfl (fun us vals w3 a' ha hd => ?_) ?_
       ·obtain ⟨d5, _⟩ := hd
        have q : a'.tmps[31]? = some (us 5) := slot_get ha 5
        rw [show us 5 = .bool false from d5] at q
        exact wanted_some rfl rfl q
       intro us vals w3 a' ha hle hW hd hv K hK
       have q0 : a'.tmps[0]? = some (.slice A n c) := slot_old ha
       exact sV hK rfl
      ·refine stageOf_free rfl (fun us vals w3 a' ha hd => ?_) ?_
       ·obtain ⟨d5, _⟩ := hd
        have q : a'.tmps[31]? = some (us 5) := slot_get ha 5
        rw [show us 5 = .bool false from d5] at q
        exact wanted_some rfl rfl q
       intro us vals w3 a' ha hle hW hd hv K hK
       have q4 : a'.tmps[4]? = some (.int .i64 (n : Int)) := slot_old ha
       exact sV hK rfl
      ·refine stageOf_free rfl (fun us vals w3 a' ha hd => ?_) ?_
       ·obtain ⟨_, d5, _⟩ := hd
        have q : a'.tmps[31]? = some (us 5) := slot_get ha 5
        rw [show us 5 = .bool false from d5] at q
        exact wanted_some rfl rfl q
       intro us vals w3 a' ha hle hW hd hv K hK
       obtain ⟨d9, _, _⟩ := hd
       have q35 : a'.tmps[35]? = some (us 9) := slot_get ha 9
       rw [show us 9 = .int .i64 (n : Int) from d9] at q35
       refine step_value (v := .int .i64 ((n : Int) - 4)) (w2 := w3) ?_ (hK _ _ (Grow.refl _) rfl)
       go_simp
       exact IntWalk.i64_in _ (by omega)
      ·refine stageOf_free rfl (fun us vals w3 a' ha hd => ?_) ?_
       ·obtain ⟨_, _, d5, _⟩ := hd
        have q : a'.tmps[31]? = some (us 5) := slot_get ha 5
        rw [show us 5 = .bool false from d5] at q
        exact wanted_some rfl rfl q
       intro us vals w3 a' ha hle hW hd hv K hK
       obtain ⟨d8, d10, _, _⟩ := hd
       have q34 : a'.tmps[34]? = some (us 8) := slot_get ha 8
       rw [show us 8 = .slice A n c from d8] at q34
       have q36 : a'.tmps[36]? = some (us 10) := slot_get ha 10
       rw [show us 10 = .int .i64 ((n : Int) - 4) from d10] at q36
       exact step_cut_head bytesTy rfl q34 q36 (n - 4) (by omega) (by omega) (hK _ _ (Grow.refl _) rfl)
      ·refine stageOf_free rfl (fun us vals w3 a' ha hd => ?_) ?_
       ·obtain ⟨_, _, d5, _⟩ := hd
        have q : a'.tmps[31]? = some (us 5) := slot_get ha 5
        rw [show us 5 = .bool false from d5] at q
        exact wanted_some rfl rfl q
       intro us vals w3 a' ha hle hW hd hv K hK
       obtain ⟨d11, _, _, _⟩ := hd
       have q37 : a'.tmps[37]? = some (us 11) := slot_get ha 11
       rw [show us 11 = .slice A (n - 4) c from d11] at q37
       refine step_call (f := 43) (args := #[.slice A (n - 4) c]) (by go_simp) ?_
       refine (HOne.out w3 hW.keep).mono ?_
       rintro e w4 ⟨rfl, rfl⟩
       exact ⟨_, rfl, hK _ _ (Grow.refl _) rfl⟩
      ·refine stageOf_free rfl (fun us vals w3 a' ha hd => ?_) ?_
       ·obtain ⟨_, _, d5, _⟩ := hd
        have q : a'.tmps[31]? = some (us 5) := slot_get ha 5
        rw [show us 5 = .bool false from d5] at q
        exact wanted_some rfl rfl q
       intro us vals w3 a' ha hle hW hd hv K hK
       obtain ⟨d7, d12, _, _⟩ := hd
       have q33 : a'.tmps[33]? = some (us 7) := slot_get ha 7
       have q38 : a'.tmps[38]? = some (us 12) := slot_get ha 12
       rw [show us 12 = .int .u32 (SU : Int) from d12] at q38
       rw [hW.v1 _ d7] at q33
       exact sV (v := .bool true) hK rfl
      ·refine sF rfl rfl ?_
       intro us vals w3 a' ha hle hW hd hv K hK
       obtain ⟨d5, d13, _⟩ := hd
       have q31 : a'.tmps[31]? = some (us 5) := slot_get ha 5
       rw [show us 5 = .bool false from d5] at q31
       have q39 : a'.tmps[39]? = some (us 13) := slot_get ha 13
       rw [show us 13 = .bool true from d13] at q39
       exact sV (v := .bool true) hK rfl
     ·intro us vals w3 hle hvl hV _ hf
      exact hMx _ _ (Met.intro (hJx _ _ ⟨us 0, us 1, us 2, us 3, us 4, us 5, us 6, us 7, us 8, us 9, us 10, us 11, us 12, us 13, us 14, ⟨hf 14 (by decide) rfl, hV.keep⟩, by kernel_rfl⟩))
    case rest =>
     obtain ⟨rfl, hk6⟩ := hcut
     have HK6 := Lib.hid hk6
     clear hk6
     go_wp2
     go_ret2
     exact Or.inr ⟨Hgb2.out, rfl, Below.trans HG0.out (HK6.out.below (fun k hk => by omega) (by have := HG0.out.size; omega))⟩
  ·have db : ((X1 : Int) != (n : Int)) = true := by simp; omega
   have Hgb2 : Hid (getB b = none) := by show _ = _; rw [Hgb.out, if_neg fun h => hx h.1]
   clear Hgb hx
   go_enter Tryz.func99, Tryz.ntmps99
   go_upto_region 6 with (fail)
   clear hW0
   go_cut [40] from 26 to 40 (fun vx wx => vx = .bool true ∧ Keep (fun k => k = w.heap.size ∨ k = w.heap.size + 1) W0 wx)
   case first Jx Kx hJx hMx =>
    refine wp_region_stages (by kernel_rfl) ?_
    refine anyOrder_start [1] (Keep (fun k => k = w.heap.size ∨ k = w.heap.size + 1)) ((TwoRd w.heap.size (w.heap.size + 1) A n c b (.int .u32 (X1 : Int)) (.int .u32 (X2 : Int)) W0)) (FactsOn [.is (.pointer (some ⟨w.heap.size, 0, none⟩)), .any, .is (.int .i64 (X1 : Int)), .is (.int .i64 (n : Int)), .is (.bool true), .is (.bool true), .is (undef), .is (undef), .is (undef), .is (undef), .is (undef), .is (undef), .is (undef), .is (undef), .is (.bool true)]) (fun i => 99) keep_trans keep_grow (TwoRd.grow) (factsOn_mono _) (by kernel_rfl) (by kernel_rfl) ⟨Keep.refl _ _, (fun x hx => by cases hx), (fun x hx => by cases hx), (fun _ => HS0.out), (fun _ => HD0.out)⟩ ?_ ?_
    ·refine ⟨?_, ?_, ?_, ?_, ?_, ?_, ?_, ?_, ?_, ?_, ?_, ?_, ?_, ?_, ?_, trivial⟩
     ·refine sF rfl rfl ?_
      intro us vals w3 a' ha hle hW hd hv K hK
      have q5 : a'.tmps[5]? = some (.pointer (some ⟨w.heap.size, 0, none⟩)) := slot_old ha
      exact sV hK rfl
     ·refine stageOf_mem (t := 0) rfl ?_
      intro us vals w3 a' ha hle hW hd hv
      obtain ⟨d0, _⟩ := hd
      obtain rfl := List.eq_nil_of_length_eq_zero (Nat.le_zero.1 (show vals.length ≤ 0 from Nat.le_of_eq hv))
      refine ⟨wanted_none rfl, fun K hK => ?_⟩
      have q26 : a'.tmps[26]? = some (us 0) := slot_get ha 0
      rw [show us 0 = .pointer (some ⟨w.heap.size, 0, none⟩) from d0] at q26
      refine step_call (f := 101) (args := #[.pointer (some ⟨w.heap.size, 0, none⟩)]) (by go_simp) ?_
      refine (HF1.out w3 (hW.r0 rfl)).mono ?_
      rintro e w4 ⟨rfl, hk4⟩
      refine ⟨_, rfl, hK _ _ (Keep.mono hk4 (fun j hj => Or.inl (Or.inl hj))) ⟨hW.keep.trans' (Keep.mono hk4 (fun j hj => Or.inl (Or.inl hj))), (fun x hx => by injection hx with hx; exact hx.symm), (fun x hx => by cases hx), (fun h => by cases h), fun _ => (hW.r1 (Nat.zero_le _)).kept hk4 (by unfold Own1; omega) (fun h0 ad e => by have := hAlt ad e; unfold Own1; omega)⟩⟩
     ·refine sF rfl rfl ?_
      intro us vals w3 a' ha hle hW hd hv K hK
      obtain ⟨d1, _⟩ := hd
      have q27 : a'.tmps[27]? = some (us 1) := slot_get ha 1
      rw [hW.v0 _ d1] at q27
      refine step_value (v := .int .i64 (X1 : Int)) (w2 := w3) ?_ (hK _ _ (Grow.refl _) rfl)
      go_simp
      exact IntWalk.i64_in _ (by omega)
     ·refine sF rfl rfl ?_
      intro us vals w3 a' ha hle hW hd hv K hK
      have q4 : a'.tmps[4]? = some (.int .i64 (n : Int)) := slot_old ha
      exact sV hK rfl
     ·refine sF rfl rfl ?_
      intro us vals w3 a' ha hle hW hd hv K hK
      obtain ⟨d2, d3, _⟩ := hd
      have q28 : a'.tmps[28]? = some (us 2) := slot_get ha 2
      rw [show us 2 = .int .i64 (X1 : Int) from d2] at q28
      have q29 : a'.tmps[29]? = some (us 3) := slot_get ha 3
      rw [show us 3 = .int .i64 (n : Int) from d3] at q29
      exact sV (v := .bool true) hK rfl
     ·refine sF rfl rfl ?_
      intro us vals w3 a' ha hle hW hd hv K hK
      obtain ⟨d4, _, _⟩ := hd
      have q30 : a'.tmps[30]? = some (us 4) := slot_get ha 4
      rw [show us 4 = .bool true from d4] at q30
      exact sV hK rfl
     ·refine stageOf_skip rfl (fun us vals w3 a' ha hd => ?_) (fun _ => rfl)
      obtain ⟨d5, _⟩ := hd
      have q : a'.tmps[31]? = some (us 5) := slot_get ha 5
      rw [show us 5 = .bool true from d5] at q
      exact wanted_other rfl rfl q
     ·refine stageOf_skip rfl (fun us vals w3 a' ha hd => ?_) (fun _ => rfl)
      obtain ⟨_, d5, _, _⟩ := hd
      have q : a'.tmps[31]? = some (us 5) := slot_get ha 5
      rw [show us 5 = .bool true from d5] at q
      exact wanted_other rfl rfl q
     ·refine stageOf_skip rfl (fun us vals w3 a' ha hd => ?_) (fun _ => rfl)
      obtain ⟨d5, _⟩ := hd
      have q : a'.tmps[31]? = some (us 5) := slot_get ha 5
      rw [show us 5 = .bool true from d5] at q
      exact wanted_other rfl rfl q
     ·refine stageOf_skip rfl (fun us vals w3 a' ha hd => ?_) (fun _ => rfl)
      obtain ⟨d5, _⟩ := hd
      have q : a'.tmps[31]? = some (us 5) := slot_get ha 5
      rw [show us 5 = .bool true from d5] at q
      exact wanted_other rfl rfl q
     ·refine stageOf_skip rfl (fun us vals w3 a' ha hd => ?_) (fun _ => rfl)
      obtain ⟨_, d5, _⟩ := hd
      have q : a'.tmps[31]? = some (us 5) := slot_get ha 5
      rw [show us 5 = .bool true from d5] at q
      exact wanted_other rfl rfl q
     ·refine stageOf_skip rfl (fun us vals w3 a' ha hd => ?_) (fun _ => rfl)
      obtain ⟨_, _, d5, _⟩ := hd
      have q : a'.tmps[31]? = some (us 5) := slot_get ha 5
      rw [show us 5 = .bool true from d5] at q
      exact wanted_other rfl rfl q
     ·refine stageOf_skip rfl (fun us vals w3 a' ha hd => ?_) (fun _ => rfl)
      obtain ⟨_, _, d5, _⟩ := hd
      have q : a'.tmps[31]? = some (us 5) := slot_get ha 5
      rw [show us 5 = .bool true from d5] at q
      exact wanted_other rfl rfl q
     ·refine stageOf_skip rfl (fun us vals w3 a' ha hd => ?_) (fun _ => rfl)
      obtain ⟨_, _, d5, _⟩ := hd
      have q : a'.tmps[31]? = some (us 5) := slot_get ha 5
      rw [show us 5 = .bool true from d5] at q
      exact wanted_other rfl rfl q
     ·refine sF rfl rfl ?_
      intro us vals w3 a' ha hle hW hd hv K hK
      obtain ⟨d5, d13, _⟩ := hd
      have q31 : a'.tmps[31]? = some (us 5) := slot_get ha 5
      rw [show us 5 = .bool true from d5] at q31
      have q39 : a'.tmps[39]? = some (us 13) := slot_get ha 13
      rw [show us 13 = undef from d13] at q39
      exact sV (v := .bool true) hK rfl
    ·intro us vals w3 hle hvl hV _ hf
     exact hMx _ _ (Met.intro (hJx _ _ ⟨us 0, us 1, us 2, us 3, us 4, us 5, us 6, us 7, us 8, us 9, us 10, us 11, us 12, us 13, us 14, ⟨hf 14 (by decide) rfl, hV.keep⟩, by kernel_rfl⟩))
   case rest =>
    obtain ⟨rfl, hk6⟩ := hcut
    have HK6 := Lib.hid hk6
    clear hk6
    go_wp2
    go_ret2
    exact Or.inr ⟨Hgb2.out, rfl, Below.trans HG0.out (HK6.out.below (fun k hk => by omega) (by have := HG0.out.size; omega))⟩
end Go.Proofs.YtcimkoehcdfjdaaGreatDoor
