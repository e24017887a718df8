/-
  The walks of the document's writer (layer 2): Number, Fixed, Text.
  The walk of the document's writer (layer 2): Rising.
-/
import Derived.Test.YtcimkoehcdfjdaaGreatDoorWFixed
import Derived.Test.YtcimkoehcdfjdaaGreatDoorWRising
import Derived.Test.YtcimkoehcdfjdaaGreatDoorWBytes
import Derived.Deep.QuietTactic
import Derived.BigQuiet
import Derived.IntWalk
namespace Go.Proofs.YtcimkoehcdfjdaaGreatDoor
open Go.RowKit WireM

theorem u8_ofNat (n : Nat) (h : n < 256) : ((UInt8.ofNat n).toNat : Int) = (n : Int) := by
 rw [UInt8.toNat_ofNat', Nat.mod_eq_of_lt h]

set_option maxRecDepth 100000 in
set_option maxHeartbeats 4000000 in
theorem vNumber_any (w : World) (B g : Nat) (v : Value) (l : List UInt8) (bad : Bool) (n : Int) (hW : Wr 55 w B g v l bad) (hl : l.length + 6 ≤ 140737488355328) :
  Calls Tryz.prog 22 #[.pointer (some ⟨g, 0, none⟩), .int .i64 n] w fun e w' => e = .returned (.tuple #[]) ∧ PutsTo 55 w B g v (putNum n (stOf l bad)) (l.length + 6) w' := by
 have bytesTy : AppTy Tryz.prog 28 5 (.int .u8 0) 1 1 := AppTy.mk' Tryz.underlying28 (by kernel_rfl) rfl (by decide)
 have hT : 55 ≠ 5 := by decide
 have hc1 := hW.cell.cell 1
 have hf1 := hW.cell.frozen 1
 go_enter Tryz.func22, Tryz.ntmps22
 by_cases h1 : n < 0
 ·go_wp2
  (try simp only [Exit.inBlock, Exit.then])
  refine bodyPost_ret0 rfl rfl ?_
  have h2 := hW.mark hT true
  refine ⟨rfl, v, l, true, h2.1, h2.2, ?_, by omega⟩
  cases bad with
  | true => rfl
  | false => rw [stOf_false, putNum, if_neg (by omega)]; rfl
 ·by_cases h2 : 1099511627776 < n
  ·go_wp2
   (try simp only [Exit.inBlock, Exit.then])
   refine bodyPost_ret0 rfl rfl ?_
   have h2 := hW.mark hT true
   refine ⟨rfl, v, l, true, h2.1, h2.2, ?_, by omega⟩
   cases bad with
   | true => rfl
   | false => rw [stOf_false, putNum, if_neg (by simp only [maxNum]; omega)]; rfl
  ·obtain ⟨n0, rfl⟩ := Int.eq_ofNat_of_zero_le (show 0 ≤ n by omega)
   have hn0 : n0 ≤ 1099511627776 := by omega
   have h6 := enc_len6 n0 hn0
   clear hc1 hf1
   have fin : stOf (l ++ enc n0) bad = putNum (n0 : Int) (stOf l bad) := by
    cases bad with
    | true => rfl
    | false => rw [stOf_false, stOf_false, putNum, if_pos (by simp only [maxNum]; omega)]; simp
   have Hfin := Lib.hid fin
   clear fin
   go_wp2
   go_loopw [1] (fun v1 wr => ∃ (m : Nat) (v2 : Value) (l2 : List UInt8), v1 = .int .i64 (m : Int) ∧ m ≤ 1099511627776 ∧ Wr 55 wr B g v2 l2 bad ∧ Foot w g v wr v2 ∧ l2 ++ enc m = l ++ enc n0) (fun v1 _ => (intOf v1).toNat)
   case atStart => exact ⟨n0, v, l, rfl, hn0, hW, Foot.refl _ _ _, rfl⟩
   case round =>
    obtain ⟨m, v2, l2, rfl, hm, hW2, hF2, he⟩ := hrel
    have hlen := congrArg List.length he
    simp only [List.length_append] at hlen
    have hne := List.length_pos_iff.2 (enc_ne m)
    have hgl := hW2.cell.lt
    have hc0 := hW2.cell.cell 0
    have hf0 := hW2.cell.frozen 0
    have hb2 : B ≤ wr.heap.size := Nat.le_trans hW2.base (Nat.le_of_lt hgl)
    have He := Lib.hid he
    clear he
    obtain ⟨A2, c2, rfl, -⟩ := own_reads hW2.own
    by_cases h128 : 128 ≤ m
    ·have Hy := Lib.hid (show Value.int IntKind.u8 ((m : Int) % 128 + 128) = b8 (UInt8.ofNat (m % 128 + 128)) by rw [b8, u8_ofNat _ (by omega)]; congr 1)
     go_wp2_with (at_builtin; refine wpList_append_reads _ rfl (.tmp 19) (.tmp 24) rfl bytesTy rfl (own_below hW2.own (Grow.alloc _ _)) rfl (ReadsAt.made1 _ _ _) (by simp [Value.oneCell']) (by simp only [maxLen]; omega) (by omega) (by simp; omega) ?_; intro v3 w3 hown hgrow hat; have hM := appW.app (w0 := wr) (appW.grow _ _ _ (Grow.alloc wr _) (show appW 55 B g _ l2 bad wr [UInt8.ofNat (m % 128 + 128)] [] wr from ⟨hW2, Foot.refl _ _ _⟩)) hT (by have h0 := hown; rw [Hy.out] at h0; exact h0) hgrow hat; have hf3 := hM.2.cell.frozen 0; have hc3 := hM.2.cell.cell 0; obtain ⟨A5, c5, rfl, -⟩ := own_reads hown)
     go_roundw
     case rel =>
      have h2 := hM.2.store undef
      refine ⟨m / 128, _, _, by go_num, by omega, h2.2.1, hF2.trans h2.2.2, ?_⟩
      rw [List.append_assoc, List.singleton_append, ← enc_big h128]
      exact He.out
     case measure => simp [intOf]; omega
    ·have Hy := Lib.hid (show Value.int IntKind.u8 (m : Int) = b8 (UInt8.ofNat m) by rw [b8, u8_ofNat _ (by omega)])
     go_wp2_with (at_builtin; refine wpList_append_reads _ rfl (.tmp 34) (.tmp 37) rfl bytesTy rfl (own_below hW2.own (Grow.alloc _ _)) rfl (ReadsAt.made1 _ _ _) (by simp [Value.oneCell']) (by simp only [maxLen]; omega) (by omega) (by simp; omega) ?_; intro v3 w3 hown hgrow hat; have hM := appW.app (w0 := wr) (appW.grow _ _ _ (Grow.alloc wr _) (show appW 55 B g _ l2 bad wr [UInt8.ofNat m] [] wr from ⟨hW2, Foot.refl _ _ _⟩)) hT (by have h0 := hown; rw [Hy.out] at h0; exact h0) hgrow hat; have hf3 := hM.2.cell.frozen 0; have hc3 := hM.2.cell.cell 0; obtain ⟨A5, c5, rfl, -⟩ := own_reads hown)
     (try simp only [Exit.inBlock, Exit.then])
     refine Go.Great.bodyPost_end0 rfl rfl ?_
     have h2 := hM.2.store undef
     refine ⟨rfl, _, _, bad, h2.2.1, hF2.trans h2.2.2, ?_, ?_⟩
     ·rw [← Hfin.out, ← He.out, enc_small (by omega)]
     ·rw [List.length_append]
      simp
      omega

theorem fourB_val (x : BitVec 32) : [Value.int IntKind.u8 ((x.toNat : Int) % 256), .int .u8 ((x.toNat : Int) / 256 % 256), .int .u8 ((x.toNat : Int) / 65536 % 256), .int .u8 ((x.toNat : Int) / 16777216)] = (fourB x).map b8 := by
 have h := x.isLt
 have e : ((x.toNat : Int) / 16777216) = (((x.toNat / 16777216) % 256 : Nat) : Int) := by omega
 rw [e]
 simp [fourB, b8]
theorem Wr.done {Tt : TypeId} {w w' : World} {B g : Nat} {v v' : Value} {l' : List UInt8} {bad' : Bool} {st : St} {len : Nat} (h : Wr Tt w' B g v' l' bad') (hf : Foot w g v w' v') (hs : stOf l' bad' = st) (hl : l'.length ≤ len) : PutsTo Tt w B g v st len w' := ⟨v', l', bad', h, hf, hs, hl⟩
theorem stOf_more (l b : List UInt8) (bad : Bool) : stOf (l ++ b) bad = putBytes b (stOf l bad) := by
 cases bad <;> rfl

set_option maxRecDepth 100000 in
set_option maxHeartbeats 4000000 in
theorem vFixed_any (w : World) (B g : Nat) (v : Value) (l : List UInt8) (bad : Bool) (x : BitVec 32) (hW : Wr 55 w B g v l bad) (hl : l.length + 4 ≤ 140737488355328) :
  Calls Tryz.prog 23 #[.pointer (some ⟨g, 0, none⟩), .int .u32 (x.toNat : Int)] w fun e w' => e = .returned (.tuple #[]) ∧ PutsTo 55 w B g v (putFixed x.toNat (stOf l bad)) (l.length + 4) w' := by
 have bytesTy : AppTy Tryz.prog 28 5 (.int .u8 0) 1 1 := AppTy.mk' Tryz.underlying28 (by kernel_rfl) rfl (by decide)
 have hT : 55 ≠ 5 := by decide
 have hgl := hW.cell.lt
 have hc0 := hW.cell.cell 0
 have hb2 : B ≤ w.heap.size := Nat.le_trans hW.base (Nat.le_of_lt hgl)
 obtain ⟨A2, c2, rfl, -⟩ := own_reads hW.own
 have Hy := Lib.hid (fourB_val x)
 go_enter Tryz.func23, Tryz.ntmps23
 go_wp2_with (at_builtin; refine wpList_append_reads _ rfl (.tmp 8) (.tmp 20) rfl bytesTy rfl (own_below hW.own (Grow.alloc _ _)) rfl ((ReadsAt.made _ _ [_, _, _, _])) (by simp [Value.oneCell']) (by simp only [maxLen]; omega) (by omega) (by simp; omega) ?_; intro v3 w3 hown hgrow hat; have hM := appW.app (w0 := w) (appW.grow _ _ _ (Grow.alloc w _) (show appW 55 B g _ l bad w (fourB x) [] w from ⟨hW, Foot.refl _ _ _⟩)) hT (by have h0 := hown; rw [Hy.out] at h0; exact h0) hgrow hat; have hf3 := hM.2.cell.frozen 0; have hc3 := hM.2.cell.cell 0; obtain ⟨A5, c5, rfl, -⟩ := own_reads hown)
 (try simp only [Exit.inBlock, Exit.then])
 refine Go.Great.bodyPost_end0 rfl rfl ?_
 have h2 := hM.2.store undef
 refine ⟨rfl, h2.2.1.done h2.2.2 ?_ ?_⟩
 ·rw [stOf_more]
  cases bad <;> rfl
 ·rw [List.length_append]
  simp [fourB]

set_option maxRecDepth 100000 in
set_option maxHeartbeats 4000000 in
theorem vText_any (w : World) (B g : Nat) (v : Value) (l : List UInt8) (bad : Bool) (A : Option Addr) (n c : Nat) (b : List UInt8) (hW : Wr 55 w B g v l bad) (hR : BytesAt w B A n b) (hl : l.length + 6 + n ≤ 140737488355328) :
  Calls Tryz.prog 42 #[.pointer (some ⟨g, 0, none⟩), .slice A n c] w fun e w' => e = .returned (.tuple #[]) ∧ PutsTo 55 w B g v (putText b (stOf l bad)) (l.length + 6 + n) w' := by
 have bytesTy : AppTy Tryz.prog 28 5 (.int .u8 0) 1 1 := AppTy.mk' Tryz.underlying28 (by kernel_rfl) rfl (by decide)
 have hT : 55 ≠ 5 := by decide
 have hblen := hR.len
 obtain ⟨st, hst⟩ : ∃ st, st = putText b (stOf l bad) := ⟨_, rfl⟩
 have Hst := Lib.hid hst
 rw [← hst]
 clear hst
 go_enter Tryz.func42, Tryz.ntmps42
 go_wp2_with fail
 refine (vNumber_any w B g v l bad (n : Int) hW (by omega)).mono ?_
 rintro e w2 ⟨rfl, v2, l2, b2, hW2, hF2, hs2, hl2⟩
 have Hs2 := Lib.hid hs2
 clear hs2
 have hR2 := hR.below (hW.below' hF2)
 have hgl := hW2.cell.lt
 have hc0 := hW2.cell.cell 0
 have hb2 : B ≤ w2.heap.size := Nat.le_trans hW2.base (Nat.le_of_lt hgl)
 obtain ⟨A2, c2, rfl, -⟩ := own_reads hW2.own
 go_wp2_with (at_builtin; refine wpList_append_reads _ rfl (.tmp 12) (.tmp 13) rfl bytesTy rfl hW2.own rfl hR2 (b8_one b) (by simp only [maxLen]; omega) (by omega) hb2 ?_; intro v3 w3 hown hgrow hat; have hM := appW.app (w0 := w2) ⟨hW2, Foot.refl _ _ _⟩ hT (news := b) (by rw [hblen]; exact hown) hgrow hat; have hf3 := hM.2.cell.frozen 0; have hc3 := hM.2.cell.cell 0; obtain ⟨A5, c5, rfl, -⟩ := own_reads hown)
 (try simp only [Exit.inBlock, Exit.then])
 refine Go.Great.bodyPost_end0 rfl rfl ?_
 have h2 := hM.2.store undef
 refine ⟨rfl, h2.2.1.done (hF2.trans h2.2.2) ?_ ?_⟩
 ·rw [stOf_more, Hs2.out, Hst.out, putText, hblen]
 ·rw [List.length_append]
  omega
end Go.Proofs.YtcimkoehcdfjdaaGreatDoor

namespace Go.Proofs.YtcimkoehcdfjdaaGreatDoor
open Go.RowKit WireM

theorem PutsTo.of {Tt : TypeId} {w w1 w2 : World} {B g : Nat} {v v1 : Value} {st : St} {len len2 : Nat} (hf : Foot w g v w1 v1) (h : PutsTo Tt w1 B g v1 st len w2) (hl : len ≤ len2) : PutsTo Tt w B g v st len2 w2 := by
 obtain ⟨v', l', b', h1, h2, h3, h4⟩ := h
 exact ⟨v', l', b', h1, hf.trans h2, h3, Nat.le_trans h4 hl⟩
theorem Foot.drewN {w w1 : World} {g : Nat} {v v1 : Value} (h : Foot w g v w1 v1) (q : Nat) : Foot w g v (w1.drewN q) v1 := h.trans (Foot.grow (Grow.drewN w1 q))

def callW (Tt : TypeId) (B g : Nat) (v : Value) (l : List UInt8) (bad : Bool) (w0 : World) (st : St) (len : Nat) : List Value → World → Prop
 | [], w => Wr Tt w B g v l bad ∧ Foot w0 g v w v
 | [_], w => PutsTo Tt w0 B g v st len w
 | _, _ => False
theorem callW.grow {Tt : TypeId} {B g : Nat} {v : Value} {l : List UInt8} {bad : Bool} {w0 : World} {st : St} {len : Nat} : ∀ (vals : List Value) (w w2 : World), Grow w w2 → callW Tt B g v l bad w0 st len vals w → callW Tt B g v l bad w0 st len vals w2
 | [], _, _, hg, h => ⟨h.1.grow hg, h.2.trans (Foot.grow hg)⟩
 | [_], _, _, hg, ⟨v', l', b', h1, h2, h3, h4⟩ => ⟨v', l', b', h1.grow hg, h2.trans (Foot.grow hg), h3, h4⟩
 | _ :: _ :: _, _, _, _, h => h
theorem Foot.other {w w1 : World} {g : Nat} {v v1 : Value} (h : Foot w g v w1 v1) {b : Nat} (hb : b < w.heap.size) (hn : ¬ FootS g v b) : ¬ FootS g v1 b := by
 rintro (rfl | hk)
 ·exact hn (Or.inl rfl)
 ·rcases h.at_ with e | ⟨m, e, hm⟩
  ·exact hn (Or.inr (by rw [← e]; exact hk))
  ·rw [e] at hk
   injection hk with hk
   omega

structure VRiseInv (w : World) (B g : Nat) (v : Value) (l : List UInt8) (bad : Bool) (L : List Int) (k : Nat) (W : World) : Prop where
 wr : ∃ v1 l1 b1, Wr 55 W B g v1 l1 b1 ∧ Foot w g v W v1 ∧ putRising L (stOf l bad) = putRise (if k = 0 then 0 else L.getD (k - 1) 0 + 1) (L.drop k) (stOf l1 b1) ∧ l1.length ≤ l.length + 6 + 6 * k
 lo : 0 < k → 0 ≤ L.getD (k - 1) 0
theorem VRiseInv.bad {w W W' : World} {B g : Nat} {v : Value} {l : List UInt8} {bad : Bool} {L : List Int} {k n : Nat} (h : VRiseInv w B g v l bad L k W) (hT : 55 ≠ 5) {x : Int} (hd : L.drop k = x :: L.drop (k + 1)) (hk : k ≤ n) (hx : x < (if k = 0 then 0 else L.getD (k - 1) 0 + 1) ∨ x < 0 ∨ (maxNum : Int) < x) (q : Nat) (hW' : W' = (W.drewN q).setCell ⟨g, 1, none⟩ (.bool true)) :
  PutsTo 55 w B g v (putRising L (stOf l bad)) (l.length + 6 + 6 * n) W' := by
 obtain ⟨v1, l1, b1, h1, h2, h3, h4⟩ := h.wr
 have h5 := (h1.grow (Grow.drewN W q)).mark hT true
 subst hW'
 refine ⟨v1, l1, true, h5.1, (h2.drewN q).trans h5.2, ?_, by omega⟩
 rw [h3, hd, putRise, if_pos hx]
 rfl

set_option maxRecDepth 100000 in
set_option maxHeartbeats 4000000 in
theorem vRising_any (w : World) (B g : Nat) (v : Value) (l : List UInt8) (bad : Bool) (A : Option Addr) (n c : Nat) (L : List Int) (hW : Wr 55 w B g v l bad) (hR : IntsAt w w.heap.size A n L) (hA : 0 < n → ∀ ad, A = some ad → ¬ FootS g v ad.block) (hl : l.length + 6 + 6 * n ≤ 140737488355328) :
  Calls Tryz.prog 24 #[.pointer (some ⟨g, 0, none⟩), .slice A n c] w fun e w' => e = .returned (.tuple #[]) ∧ PutsTo 55 w B g v (putRising L (stOf l bad)) (l.length + 6 + 6 * n) w' := by
 have hT : 55 ≠ 5 := by decide
 have HA := Lib.hid hA
 have hlen := hR.len
 clear hA
 have hI : ∀ w3, Keep (FootS g v) w w3 → IntsAt w3 w.heap.size A n L := fun w3 hk => hk.reads' hR (Nat.le_refl _) HA.out
 obtain ⟨st, hst⟩ : ∃ st, st = putRising L (stOf l bad) := ⟨_, rfl⟩
 rw [← hst]
 have Hst := Lib.hid hst
 clear hst
 go_enter Tryz.func24, Tryz.ntmps24
 go_wp2_with fail
 refine (vNumber_any w B g v l bad (n : Int) hW (by omega)).mono ?_
 rintro e w2 ⟨rfl, v2, l2, b2, hW2, hF2, hs2, hl2⟩
 have hS0 : VRiseInv w B g v l bad L 0 w2 := ⟨⟨v2, l2, b2, hW2, hF2, by rw [hs2, putRising, hlen]; rfl, by omega⟩, fun h => absurd h (Nat.lt_irrefl 0)⟩
 clear hW2 hF2 hs2 hl2
 go_wp2_with fail
 go_loopw [4] (fun v4 wr => ∃ k : Nat, k ≤ n ∧ v4 = .int .i64 (k : Int) ∧ VRiseInv w B g v l bad L k wr) (fun v4 _ => n - (intOf v4).toNat)
 case atStart => exact ⟨0, by omega, rfl, hS0⟩
 case round =>
  clear hS0
  obtain ⟨k, hk, rfl, hInv⟩ := hrel
  obtain ⟨v1, l1, b1, hW1, hF1, hst, hl1⟩ := hInv.wr
  by_cases hlt : k < n
  ·have hRr := hI wr hF1.keep
   have hgl := hW1.cell.lt
   have hf1 := hW1.cell.frozen 1
   have hc1 := hW1.cell.cell 1
   obtain ⟨b, off, rfl, hb, hcl⟩ := hRr.at_ (by omega)
   obtain ⟨x, hx⟩ : ∃ x, L[k]? = some x := ⟨_, List.getElem?_eq_getElem (by rw [hlen]; exact hlt)⟩
   have hcx := hcl k x hx
   have hd : L.drop k = x :: L.drop (k + 1) := by
    have hkl : k < L.length := by rw [hlen]; exact hlt
    rw [List.drop_eq_getElem_cons hkl]
    rw [List.getElem?_eq_getElem hkl] at hx
    injection hx with hx
    rw [hx]
   have Hd := Lib.hid hd
   have Hx := Lib.hid hx
   have Hcl := Lib.hid hcl
   have Hinv := Lib.hid hInv
   have Hs := Lib.hid hst
   clear hcl hx hd hInv hst
   have hk1 : (k : Int) < (n : Int) := by omega
   by_cases h1 : x < 0
   ·have d1 : decide (x < 0) = true := decide_eq_true h1
    go_wp2
    go_quiet (fail)
    go_wp2
    (try simp only [Exit.inBlock, Exit.then])
    refine bodyPost_ret0 rfl rfl ?_
    refine ⟨rfl, ?_⟩
    rw [Hst.out]
    exact Hinv.out.bad hT Hd.out hk (Or.inr (Or.inl h1)) _ rfl
   ·have d1 : decide (x < 0) = false := decide_eq_false h1
    by_cases h2 : 1099511627776 < x
    ·have d2 : decide (1099511627776 < x) = true := decide_eq_true h2
     go_wp2
     go_quiet (fail)
     go_wp2
     (try simp only [Exit.inBlock, Exit.then])
     refine bodyPost_ret0 rfl rfl ?_
     refine ⟨rfl, ?_⟩
     rw [Hst.out]
     exact Hinv.out.bad hT Hd.out hk (Or.inr (Or.inr (by simp only [maxNum]; omega))) _ rfl
    ·have d2 : decide (1099511627776 < x) = false := decide_eq_false h2
     rcases Nat.eq_zero_or_pos k with hk0 | hk0
     ·subst hk0
      rw [Nat.add_zero] at hcx
      go_wp2
      go_quiet (fail)
      go_wp2_with fail
      refine (vNumber_any _ B g v1 l1 b1 x (hW1.grow (Grow.drewN _ _)) (by omega)).mono ?_
      rintro e w3 ⟨rfl, v3, l3, b3, hW3, hF3, hs3, hl3⟩
      have Hs3 := Lib.hid hs3
      clear hs3
      go_wp2
      go_roundw
      case rel =>
       refine ⟨0 + 1, by omega, by go_num, ⟨v3, l3, b3, hW3, (hF1.drewN _).trans hF3, ?_, by omega⟩, fun _ => by rw [Nat.zero_add, Nat.sub_self, List.getD_eq_getElem?_getD, Hx.out]; show 0 ≤ x; omega⟩
       rw [Hs.out, Hd.out, if_pos trivial, if_neg (by omega), putRise, if_neg (by simp only [maxNum]; omega), Hs3.out, Nat.add_sub_cancel, List.getD_eq_getElem?_getD, Hx.out, Int.sub_zero]
       rfl
      case measure => simp [intOf]; omega
     ·obtain ⟨j, rfl⟩ : ∃ j, k = j + 1 := ⟨k - 1, by omega⟩
      obtain ⟨p, hp⟩ : ∃ p, L[j]? = some p := ⟨_, List.getElem?_eq_getElem (by rw [hlen]; omega)⟩
      have hcp := Hcl.out j p hp
      have Hp := Lib.hid (show L.getD (j + 1 - 1) 0 = p by rw [Nat.add_sub_cancel, List.getD_eq_getElem?_getD, hp]; rfl)
      have hp0 : 0 ≤ p := by rw [← Hp.out]; exact Hinv.out.lo hk0
      clear hp hk0
      have hj1 : (j : Int) < (n : Int) := by omega
      have d3 : decide ((0 : Int) < ((j + 1 : Nat) : Int)) = true := decide_eq_true (by omega)
      by_cases h3 : x ≤ p
      ·have d4 : decide (x ≤ p) = true := decide_eq_true h3
       go_wp2
       go_quiet (fail)
       go_wp2
       (try simp only [Exit.inBlock, Exit.then])
       refine bodyPost_ret0 rfl rfl ?_
       refine ⟨rfl, ?_⟩
       rw [Hst.out]
       exact Hinv.out.bad hT Hd.out hk (Or.inl (by rw [if_neg (by omega), Hp.out]; omega)) _ rfl
      ·have d4 : decide (x ≤ p) = false := decide_eq_false h3
       go_wp2
       go_quiet (fail)
       go_wp2_with fail
       obtain ⟨W0, hW0⟩ : ∃ W0, wr.drewN nq = W0 := ⟨_, rfl⟩
       have hWr0 : Wr 55 W0 B g v1 l1 b1 := by rw [← hW0]; exact hW1.grow (Grow.drewN _ _)
       have hF0 : Foot w g v W0 v1 := by rw [← hW0]; exact hF1.drewN _
       have hcx0 : W0.cell? ⟨b, off + (j + 1), none⟩ = some (.int .i64 x) := by rw [← hW0]; exact hcx
       have hcp0 : W0.cell? ⟨b, off + j, none⟩ = some (.int .i64 p) := by rw [← hW0]; exact hcp
       have hzb : b < W0.heap.size := Nat.lt_of_lt_of_le hb hF0.keep.size
       have hbf : ¬ FootS g v1 b := hF0.other hb (HA.out (by omega) _ rfl)
       rw [hW0]
       clear hW0
       obtain ⟨st2, hst2⟩ : ∃ s, s = putNum (x - p - 1) (stOf l1 b1) := ⟨_, rfl⟩
       have Hst2 := Lib.hid hst2
       clear hst2
       have hw7 : IntKind.i64.wrap (j : Int) = (j : Int) := IntWalk.i64_in _ (by omega)
       have hw10 : IntKind.i64.wrap (x - p) = x - p := IntWalk.i64_in _ (by omega)
       have hw11 : IntKind.i64.wrap (x - p - 1) = x - p - 1 := IntWalk.i64_in _ (by omega)
       rename_i KK hKK hz0
       refine wp_region_stages (by kernel_rfl) ?_
       refine anyOrder_start [12] (Keep (FootS g v1)) (callW 55 B g v1 l1 b1 W0 st2 (l1.length + 6)) (FactsOn [.is (.pointer (some ⟨g, 0, none⟩)), .is (.slice (some ⟨b, off, none⟩) n c), .is (.int .i64 ((j : Int) + 1)), .is (.pointer (some ⟨b, off + (j + 1), none⟩)), .is (.int .i64 x), .is (.slice (some ⟨b, off, none⟩) n c), .is (.int .i64 ((j : Int) + 1)), .is (.int .i64 (j : Int)), .is (.pointer (some ⟨b, off + j, none⟩)), .is (.int .i64 p), .is (.int .i64 (x - p)), .is (.int .i64 (x - p - 1)), .any]) (fun i => 99) keep_trans keep_grow (callW.grow) (factsOn_mono _) (by kernel_rfl) (by kernel_rfl) ⟨hWr0, Foot.refl _ _ _⟩ ?_ ?_
       ·refine ⟨?_, ?_, ?_, ?_, ?_, ?_, ?_, ?_, ?_, ?_, ?_, ?_, ?_, trivial⟩
        ·refine sF rfl rfl ?_
         intro us vals w3 a' ha hle hW hd hv K hK
         have q0 : a'.tmps[0]? = some (.pointer (some ⟨g, 0, none⟩)) := by rw [ha.out]; kernel_rfl
         exact sV hK rfl
        ·refine sF rfl rfl ?_
         intro us vals w3 a' ha hle hW hd hv K hK
         have q1 : a'.tmps[1]? = some (.slice (some ⟨b, off, none⟩) n c) := by rw [ha.out]; kernel_rfl
         exact sV hK rfl
        ·refine sF rfl rfl ?_
         intro us vals w3 a' ha hle hW hd hv K hK
         have q4 : a'.tmps[4]? = some (.int .i64 ((j : Int) + 1)) := by rw [ha.out]; kernel_rfl
         exact sV hK rfl
        ·refine sF rfl rfl ?_
         intro us vals w3 a' ha hle hW hd hv K hK
         obtain ⟨d1, d2, _⟩ := hd
         have q16 : a'.tmps[16]? = some (us 1) := by rw [ha.out]; kernel_rfl
         rw [show us 1 = .slice (some ⟨b, off, none⟩) n c from d1] at q16
         have q17 : a'.tmps[17]? = some (us 2) := by rw [ha.out]; kernel_rfl
         rw [show us 2 = .int .i64 ((j : Int) + 1) from d2] at q17
         refine step_value (v := .pointer (some ⟨b, off + (j + 1), none⟩)) (w2 := w3) ?_ (hK _ _ (Grow.refl _) rfl)
         go_simp
         intro h
         omega
        ·refine sF rfl rfl ?_
         intro us vals w3 a' ha hle hW hd hv K hK
         obtain ⟨d3, _⟩ := hd
         have q18 : a'.tmps[18]? = some (us 3) := by rw [ha.out]; kernel_rfl
         rw [show us 3 = .pointer (some ⟨b, off + (j + 1), none⟩) from d3] at q18
         have hc : w3.cell? ⟨b, off + (j + 1), none⟩ = some (.int .i64 x) := (hle.cell (p := ⟨b, off + (j + 1), none⟩) hzb hbf).trans hcx0
         exact sV (v := .int .i64 x) hK rfl
        ·refine sF rfl rfl ?_
         intro us vals w3 a' ha hle hW hd hv K hK
         have q1 : a'.tmps[1]? = some (.slice (some ⟨b, off, none⟩) n c) := by rw [ha.out]; kernel_rfl
         exact sV hK rfl
        ·refine sF rfl rfl ?_
         intro us vals w3 a' ha hle hW hd hv K hK
         have q4 : a'.tmps[4]? = some (.int .i64 ((j : Int) + 1)) := by rw [ha.out]; kernel_rfl
         exact sV hK rfl
        ·refine sF rfl rfl ?_
         intro us vals w3 a' ha hle hW hd hv K hK
         obtain ⟨d6, _⟩ := hd
         have q21 : a'.tmps[21]? = some (us 6) := by rw [ha.out]; kernel_rfl
         rw [show us 6 = .int .i64 ((j : Int) + 1) from d6] at q21
         exact sV (v := .int .i64 (j : Int)) hK rfl
        ·refine sF rfl rfl ?_
         intro us vals w3 a' ha hle hW hd hv K hK
         obtain ⟨d5, d7, _⟩ := hd
         have q20 : a'.tmps[20]? = some (us 5) := by rw [ha.out]; kernel_rfl
         rw [show us 5 = .slice (some ⟨b, off, none⟩) n c from d5] at q20
         have q22 : a'.tmps[22]? = some (us 7) := by rw [ha.out]; kernel_rfl
         rw [show us 7 = .int .i64 (j : Int) from d7] at q22
         exact sV (v := .pointer (some ⟨b, off + j, none⟩)) hK rfl
        ·refine sF rfl rfl ?_
         intro us vals w3 a' ha hle hW hd hv K hK
         obtain ⟨d8, _⟩ := hd
         have q23 : a'.tmps[23]? = some (us 8) := by rw [ha.out]; kernel_rfl
         rw [show us 8 = .pointer (some ⟨b, off + j, none⟩) from d8] at q23
         have hc : w3.cell? ⟨b, off + j, none⟩ = some (.int .i64 p) := (hle.cell (p := ⟨b, off + j, none⟩) hzb hbf).trans hcp0
         exact sV (v := .int .i64 p) hK rfl
        ·refine sF rfl rfl ?_
         intro us vals w3 a' ha hle hW hd hv K hK
         obtain ⟨d4, d9, _⟩ := hd
         have q19 : a'.tmps[19]? = some (us 4) := by rw [ha.out]; kernel_rfl
         rw [show us 4 = .int .i64 x from d4] at q19
         have q24 : a'.tmps[24]? = some (us 9) := by rw [ha.out]; kernel_rfl
         rw [show us 9 = .int .i64 p from d9] at q24
         exact sV (v := .int .i64 (x - p)) hK rfl
        ·refine sF rfl rfl ?_
         intro us vals w3 a' ha hle hW hd hv K hK
         obtain ⟨d10, _⟩ := hd
         have q25 : a'.tmps[25]? = some (us 10) := by rw [ha.out]; kernel_rfl
         rw [show us 10 = .int .i64 (x - p) from d10] at q25
         exact sV (v := .int .i64 (x - p - 1)) hK rfl
        ·refine stageOf_mem (t := 0) rfl ?_
         intro us vals w3 a' ha hle hW hd hv
         obtain ⟨d0, d11, _⟩ := hd
         obtain rfl := List.eq_nil_of_length_eq_zero (Nat.le_zero.1 (show vals.length ≤ 0 from Nat.le_of_eq hv))
         refine ⟨wanted_none rfl, fun K hK => ?_⟩
         have q15 : a'.tmps[15]? = some (us 0) := by rw [ha.out]; kernel_rfl
         rw [show us 0 = .pointer (some ⟨g, 0, none⟩) from d0] at q15
         have q26 : a'.tmps[26]? = some (us 11) := by rw [ha.out]; kernel_rfl
         rw [show us 11 = .int .i64 (x - p - 1) from d11] at q26
         refine step_call (f := 22) (args := #[.pointer (some ⟨g, 0, none⟩), .int .i64 (x - p - 1)]) (by go_simp) ?_
         refine (vNumber_any w3 B g v1 l1 b1 (x - p - 1) hW.1 (by omega)).mono ?_
         rintro e w4 ⟨rfl, v3, l3, b3, h5, h6, h7, h8⟩
         exact ⟨_, rfl, hK _ _ h6.keep ⟨v3, l3, b3, h5, hW.2.trans h6, h7.trans Hst2.out.symm, h8⟩⟩
       ·intro us vals w3 hle hvl hV _ _
        obtain ⟨x1, rfl⟩ := List.length_eq_one_iff.1 hvl
        obtain ⟨v3, l3, b3, hW3, hF3, hs3, hl3⟩ := hV
        have Hs3 := Lib.hid hs3
        clear hs3
        simp only [Exit.inBlock, Exit.then]
        simp only [fills, Act.put, List.setIfInBounds_toArray, List.set_cons_succ, List.set_cons_zero, Nat.zero_add, Nat.reduceAdd]
        refine hKK _ _ ?_
        go_wp2
        go_roundw
        case rel =>
         refine ⟨j + 1 + 1, by omega, by go_num, ⟨v3, l3, b3, hW3, hF0.trans hF3, ?_, by omega⟩, fun _ => by rw [Nat.add_sub_cancel, List.getD_eq_getElem?_getD, Hx.out]; show 0 ≤ x; omega⟩
         rw [Hs.out, Hd.out, if_neg (by omega), if_neg (by omega), Hp.out, putRise, if_neg (by simp only [maxNum]; omega), Hs3.out, Hst2.out, Nat.add_sub_cancel, List.getD_eq_getElem?_getD, Hx.out, show x - (p + 1) = x - p - 1 by omega]
         rfl
        case measure => simp [intOf]; omega
  ·obtain rfl : k = n := by omega
   go_wp2
   (try simp only [Exit.inBlock, Exit.then])
   refine Go.Great.bodyPost_end0 rfl rfl ?_
   refine ⟨rfl, hW1.done hF1 ?_ hl1⟩
   rw [Hst.out, hst, List.drop_of_length_le (by omega)]
   rfl
end Go.Proofs.YtcimkoehcdfjdaaGreatDoor
