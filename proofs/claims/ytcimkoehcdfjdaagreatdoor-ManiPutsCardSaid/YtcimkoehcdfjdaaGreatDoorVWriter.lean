/-
  The walks of the document's writer (layer 2): Number, Fixed, Text.
-/
import Derived.Test.YtcimkoehcdfjdaaGreatDoorWFixed
import Derived.Test.YtcimkoehcdfjdaaGreatDoorWRising
import Derived.Test.YtcimkoehcdfjdaaGreatDoorWBytes
namespace Go.Proofs.YtcimkoehcdfjdaaGreatDoor
open Go.RowKit WireM

theorem u8_ofNat (n : Nat) (h : n < 256) : ((UInt8.ofNat n).toNat : Int) = (n : Int) := by
  rw [UInt8.toNat_ofNat', Nat.mod_eq_of_lt h]

set_option maxRecDepth 100000 in
set_option maxHeartbeats 4000000 in
theorem vNumber_any (w : World) (B g : Nat) (v : Value) (l : List UInt8) (bad : Bool) (n : Int) (hW : Wr 55 w B g v l bad) (hl : l.length + 6 ≤ 140737488355328) :
    Calls Tryz.prog 22 #[.pointer (some ⟨g, 0, none⟩), .int .i64 n] w fun e w' => e = .returned (.tuple #[]) ∧ PutsTo 55 w B g v (putNum n (stOf l bad)) (l.length + 6) w' := by
  have bytesTy : AppTy Tryz.prog 28 5 (.int .u8 0) 1 1 := AppTy.mk' Tryz.underlying28 (by kernel_rfl) rfl (by decide)
  have hT : 55 ≠ 5 := by decide
  have hc1 := hW.cell.cell 1
  have hf1 := hW.cell.frozen 1
  go_enter Tryz.func22, Tryz.ntmps22
  by_cases h1 : n < 0
  · go_wp2
    (try simp only [Exit.inBlock, Exit.then])
    refine bodyPost_ret0 rfl rfl ?_
    have h2 := hW.mark hT true
    refine ⟨rfl, v, l, true, h2.1, h2.2, ?_, by omega⟩
    cases bad with
    | true => rfl
    | false => rw [stOf_false, putNum, if_neg (by omega)]; rfl
  · by_cases h2 : 1099511627776 < n
    · go_wp2
      (try simp only [Exit.inBlock, Exit.then])
      refine bodyPost_ret0 rfl rfl ?_
      have h2 := hW.mark hT true
      refine ⟨rfl, v, l, true, h2.1, h2.2, ?_, by omega⟩
      cases bad with
      | true => rfl
      | false => rw [stOf_false, putNum, if_neg (by simp only [maxNum]; omega)]; rfl
    · obtain ⟨n0, rfl⟩ := Int.eq_ofNat_of_zero_le (show 0 ≤ n by omega)
      have hn0 : n0 ≤ 1099511627776 := by omega
      have h6 := enc_len6 n0 hn0
      clear hc1 hf1
      have fin : stOf (l ++ enc n0) bad = putNum (n0 : Int) (stOf l bad) := by
        cases bad with
        | true => rfl
        | false => rw [stOf_false, stOf_false, putNum, if_pos (by simp only [maxNum]; omega)]; simp
      have Hfin := Lib.hid fin
      clear fin
      go_wp2
      go_loopw [1] (fun v1 wr => ∃ (m : Nat) (v2 : Value) (l2 : List UInt8), v1 = .int .i64 (m : Int) ∧ m ≤ 1099511627776 ∧ Wr 55 wr B g v2 l2 bad ∧ Foot w g v wr v2 ∧ l2 ++ enc m = l ++ enc n0) (fun v1 _ => (intOf v1).toNat)
      case atStart => exact ⟨n0, v, l, rfl, hn0, hW, Foot.refl _ _ _, rfl⟩
      case round =>
        obtain ⟨m, v2, l2, rfl, hm, hW2, hF2, he⟩ := hrel
        have hlen := congrArg List.length he
        simp only [List.length_append] at hlen
        have hne := List.length_pos_iff.2 (enc_ne m)
        have hgl := hW2.cell.lt
        have hc0 := hW2.cell.cell 0
        have hf0 := hW2.cell.frozen 0
        have hb2 : B ≤ wr.heap.size := Nat.le_trans hW2.base (Nat.le_of_lt hgl)
        have He := Lib.hid he
        clear he
        obtain ⟨A2, c2, rfl, -⟩ := own_reads hW2.own
        by_cases h128 : 128 ≤ m
        · have Hy := Lib.hid (show Value.int IntKind.u8 ((m : Int) % 128 + 128) = b8 (UInt8.ofNat (m % 128 + 128)) by rw [b8, u8_ofNat _ (by omega)]; congr 1)
          go_wp2_with (at_builtin; refine wpList_append_reads _ rfl (.tmp 19) (.tmp 24) rfl bytesTy rfl (own_below hW2.own (Grow.alloc _ _)) rfl (ReadsAt.made1 _ _ _) (by simp [Value.oneCell']) (by simp only [maxLen]; omega) (by omega) (by simp; omega) ?_; intro v3 w3 hown hgrow hat; have hM := appW.app (w0 := wr) (appW.grow _ _ _ (Grow.alloc wr _) (show appW 55 B g _ l2 bad wr [UInt8.ofNat (m % 128 + 128)] [] wr from ⟨hW2, Foot.refl _ _ _⟩)) hT (by have h0 := hown; rw [Hy.out] at h0; exact h0) hgrow hat; have hf3 := hM.2.cell.frozen 0; have hc3 := hM.2.cell.cell 0; obtain ⟨A5, c5, rfl, -⟩ := own_reads hown)
          go_roundw
          case rel =>
            have h2 := hM.2.store undef
            refine ⟨m / 128, _, _, by go_num, by omega, h2.2.1, hF2.trans h2.2.2, ?_⟩
            rw [List.append_assoc, List.singleton_append, ← enc_big h128]
            exact He.out
          case measure => simp [intOf]; omega
        · have Hy := Lib.hid (show Value.int IntKind.u8 (m : Int) = b8 (UInt8.ofNat m) by rw [b8, u8_ofNat _ (by omega)])
          go_wp2_with (at_builtin; refine wpList_append_reads _ rfl (.tmp 34) (.tmp 37) rfl bytesTy rfl (own_below hW2.own (Grow.alloc _ _)) rfl (ReadsAt.made1 _ _ _) (by simp [Value.oneCell']) (by simp only [maxLen]; omega) (by omega) (by simp; omega) ?_; intro v3 w3 hown hgrow hat; have hM := appW.app (w0 := wr) (appW.grow _ _ _ (Grow.alloc wr _) (show appW 55 B g _ l2 bad wr [UInt8.ofNat m] [] wr from ⟨hW2, Foot.refl _ _ _⟩)) hT (by have h0 := hown; rw [Hy.out] at h0; exact h0) hgrow hat; have hf3 := hM.2.cell.frozen 0; have hc3 := hM.2.cell.cell 0; obtain ⟨A5, c5, rfl, -⟩ := own_reads hown)
          (try simp only [Exit.inBlock, Exit.then])
          refine Go.Great.bodyPost_end0 rfl rfl ?_
          have h2 := hM.2.store undef
          refine ⟨rfl, _, _, bad, h2.2.1, hF2.trans h2.2.2, ?_, ?_⟩
          · rw [← Hfin.out, ← He.out, enc_small (by omega)]
          · rw [List.length_append]
            simp
            omega

theorem fourB_val (x : BitVec 32) : [Value.int IntKind.u8 ((x.toNat : Int) % 256), .int .u8 ((x.toNat : Int) / 256 % 256), .int .u8 ((x.toNat : Int) / 65536 % 256), .int .u8 ((x.toNat : Int) / 16777216)] = (fourB x).map b8 := by
  have h := x.isLt
  have e : ((x.toNat : Int) / 16777216) = (((x.toNat / 16777216) % 256 : Nat) : Int) := by omega
  rw [e]
  simp [fourB, b8]
theorem Wr.done {Tt : TypeId} {w w' : World} {B g : Nat} {v v' : Value} {l' : List UInt8} {bad' : Bool} {st : St} {len : Nat} (h : Wr Tt w' B g v' l' bad') (hf : Foot w g v w' v') (hs : stOf l' bad' = st) (hl : l'.length ≤ len) : PutsTo Tt w B g v st len w' := ⟨v', l', bad', h, hf, hs, hl⟩
theorem stOf_more (l b : List UInt8) (bad : Bool) : stOf (l ++ b) bad = putBytes b (stOf l bad) := by
  cases bad <;> rfl

set_option maxRecDepth 100000 in
set_option maxHeartbeats 4000000 in
theorem vFixed_any (w : World) (B g : Nat) (v : Value) (l : List UInt8) (bad : Bool) (x : BitVec 32) (hW : Wr 55 w B g v l bad) (hl : l.length + 4 ≤ 140737488355328) :
    Calls Tryz.prog 23 #[.pointer (some ⟨g, 0, none⟩), .int .u32 (x.toNat : Int)] w fun e w' => e = .returned (.tuple #[]) ∧ PutsTo 55 w B g v (putFixed x.toNat (stOf l bad)) (l.length + 4) w' := by
  have bytesTy : AppTy Tryz.prog 28 5 (.int .u8 0) 1 1 := AppTy.mk' Tryz.underlying28 (by kernel_rfl) rfl (by decide)
  have hT : 55 ≠ 5 := by decide
  have hgl := hW.cell.lt
  have hc0 := hW.cell.cell 0
  have hb2 : B ≤ w.heap.size := Nat.le_trans hW.base (Nat.le_of_lt hgl)
  obtain ⟨A2, c2, rfl, -⟩ := own_reads hW.own
  have Hy := Lib.hid (fourB_val x)
  go_enter Tryz.func23, Tryz.ntmps23
  go_wp2_with (at_builtin; refine wpList_append_reads _ rfl (.tmp 8) (.tmp 20) rfl bytesTy rfl (own_below hW.own (Grow.alloc _ _)) rfl ((ReadsAt.made _ _ [_, _, _, _])) (by simp [Value.oneCell']) (by simp only [maxLen]; omega) (by omega) (by simp; omega) ?_; intro v3 w3 hown hgrow hat; have hM := appW.app (w0 := w) (appW.grow _ _ _ (Grow.alloc w _) (show appW 55 B g _ l bad w (fourB x) [] w from ⟨hW, Foot.refl _ _ _⟩)) hT (by have h0 := hown; rw [Hy.out] at h0; exact h0) hgrow hat; have hf3 := hM.2.cell.frozen 0; have hc3 := hM.2.cell.cell 0; obtain ⟨A5, c5, rfl, -⟩ := own_reads hown)
  (try simp only [Exit.inBlock, Exit.then])
  refine Go.Great.bodyPost_end0 rfl rfl ?_
  have h2 := hM.2.store undef
  refine ⟨rfl, h2.2.1.done h2.2.2 ?_ ?_⟩
  · rw [stOf_more]
    cases bad <;> rfl
  · rw [List.length_append]
    simp [fourB]

set_option maxRecDepth 100000 in
set_option maxHeartbeats 4000000 in
theorem vText_any (w : World) (B g : Nat) (v : Value) (l : List UInt8) (bad : Bool) (A : Option Addr) (n c : Nat) (b : List UInt8) (hW : Wr 55 w B g v l bad) (hR : BytesAt w B A n b) (hl : l.length + 6 + n ≤ 140737488355328) :
    Calls Tryz.prog 42 #[.pointer (some ⟨g, 0, none⟩), .slice A n c] w fun e w' => e = .returned (.tuple #[]) ∧ PutsTo 55 w B g v (putText b (stOf l bad)) (l.length + 6 + n) w' := by
  have bytesTy : AppTy Tryz.prog 28 5 (.int .u8 0) 1 1 := AppTy.mk' Tryz.underlying28 (by kernel_rfl) rfl (by decide)
  have hT : 55 ≠ 5 := by decide
  have hblen := hR.len
  obtain ⟨st, hst⟩ : ∃ st, st = putText b (stOf l bad) := ⟨_, rfl⟩
  have Hst := Lib.hid hst
  rw [← hst]
  clear hst
  go_enter Tryz.func42, Tryz.ntmps42
  go_wp2_with fail
  refine (vNumber_any w B g v l bad (n : Int) hW (by omega)).mono ?_
  rintro e w2 ⟨rfl, v2, l2, b2, hW2, hF2, hs2, hl2⟩
  have Hs2 := Lib.hid hs2
  clear hs2
  have hR2 := hR.below (hW.below' hF2)
  have hgl := hW2.cell.lt
  have hc0 := hW2.cell.cell 0
  have hb2 : B ≤ w2.heap.size := Nat.le_trans hW2.base (Nat.le_of_lt hgl)
  obtain ⟨A2, c2, rfl, -⟩ := own_reads hW2.own
  go_wp2_with (at_builtin; refine wpList_append_reads _ rfl (.tmp 12) (.tmp 13) rfl bytesTy rfl hW2.own rfl hR2 (b8_one b) (by simp only [maxLen]; omega) (by omega) hb2 ?_; intro v3 w3 hown hgrow hat; have hM := appW.app (w0 := w2) ⟨hW2, Foot.refl _ _ _⟩ hT (news := b) (by rw [hblen]; exact hown) hgrow hat; have hf3 := hM.2.cell.frozen 0; have hc3 := hM.2.cell.cell 0; obtain ⟨A5, c5, rfl, -⟩ := own_reads hown)
  (try simp only [Exit.inBlock, Exit.then])
  refine Go.Great.bodyPost_end0 rfl rfl ?_
  have h2 := hM.2.store undef
  refine ⟨rfl, h2.2.1.done (hF2.trans h2.2.2) ?_ ?_⟩
  · rw [stOf_more, Hs2.out, Hst.out, putText, hblen]
  · rw [List.length_append]
    omega
end Go.Proofs.YtcimkoehcdfjdaaGreatDoor
