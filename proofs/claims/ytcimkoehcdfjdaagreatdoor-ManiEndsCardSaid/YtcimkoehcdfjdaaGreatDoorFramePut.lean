/-
  The walk of frame's Put: the file of parts.
-/
import Derived.Deep.MidRow
import Derived.Test.YtcimkoehcdfjdaaGreatDoorOwnRows
import Derived.Test.YtcimkoehcdfjdaaGreatDoorConcat
import Derived.Test.YtcimkoehcdfjdaaGreatDoorFrameFixed
import Derived.Test.YtcimkoehcdfjdaaGreatDoorFrameMath
import Derived.Deep.DeepCutAuto
import Derived.Deep.CutRange
import Derived.Test.YtcimkoehcdfjdaaGreatDoorBaseB
import Derived.Test.YtcimkoehcdfjdaaGreatDoorCrcA
import Derived.Test.YtcimkoehcdfjdaaGreatDoorBaseE
namespace Go.Proofs.YtcimkoehcdfjdaaGreatDoor
open Go.RowKit WireM

def chunks (ts : List PartM) : List (List UInt8) := ts.flatMap fun t => [[t.tag], enc t.b.length, t.b]
theorem chunks_succ {ts : List PartM} {k : Nat} {t : PartM} (h : ts[k]? = some t) : chunks (ts.take (k + 1)) = chunks (ts.take k) ++ [[t.tag], enc t.b.length, t.b] := by
 rw [List.take_add_one, h]
 simp [chunks]
theorem chunks_length (ts : List PartM) : (chunks ts).length = 3 * ts.length := by
 induction ts with
 | nil => rfl
 | cons t r ih => simp only [chunks, List.flatMap_cons, List.length_append, List.length_cons, List.length_nil] at ih ⊢; omega
theorem chunks_flatten (ts : List PartM) : (chunks ts).flatten = bodyB ts := by
 induction ts with
 | nil => rfl
 | cons t r ih =>
  have : chunks (t :: r) = [[t.tag], enc t.b.length, t.b] ++ chunks r := rfl
  rw [this, List.flatten_append, ih, bodyB, partB]
  simp
theorem body_take_le (ts : List PartM) (k : Nat) : (bodyB (ts.take k)).length ≤ (bodyB ts).length := by
 have h : bodyB ts = bodyB (ts.take k) ++ bodyB (ts.drop k) := by rw [← bodyB_append, List.take_append_drop]
 rw [h, List.length_append]
 omega
theorem body_ge (ts : List PartM) : 2 * ts.length ≤ (bodyB ts).length := by
 induction ts with
 | nil => simp
 | cons t r ih =>
  have := List.length_pos_iff.2 (enc_ne t.b.length)
  simp only [bodyB, partB, List.length_append, List.length_cons]
  omega
theorem enc_pos (n : Nat) : 1 ≤ (enc n).length := List.length_pos_iff.2 (enc_ne n)
theorem partsTy : AppTy Tryz.prog 36 28 (.slice none 0 0) 1 24 := AppTy.mk' Tryz.underlying36 (by kernel_rfl) rfl (by decide)

set_option maxRecDepth 100000 in
set_option maxHeartbeats 4000000 in
theorem Put_any (w : World) (B : Nat) (A : Option Addr) (n c : Nat) (ts : List PartM) (hT : PartsAt w B A n ts) (hB : B ≤ w.heap.size) (hn : n ≤ 4398046510976) (hf : (fileB ts).length ≤ 67108864) :
  Calls Tryz.prog 35 #[.slice A n c] w fun e w' => ∃ r, e = .returned (.tuple #[r, .int .i64 0]) ∧ w'.ownsRow w.heap.size 5 1 r (fileB ts).length ((fileB ts).map b8) ∧ Grow w w' := by
 have bytesTy : AppTy Tryz.prog 28 5 (.int .u8 0) 1 1 := AppTy.mk' Tryz.underlying28 (by kernel_rfl) rfl (by decide)
 have Hlen := Lib.hid hT.len
 have hbl : (bodyB ts).length ≤ 67108856 := by rw [fileB_len] at hf; omega
 have hn2 : n ≤ 33554432 := by
  have h1 := body_ge ts
  have h2 := Hlen.out
  omega
 go_enter Tryz.func35, Tryz.ntmps35
 go_wp2
 go_loopw [4, 5, 12] (fun v4 v5 v12 wr => ∃ (k S : Nat) (l4 : Value), k ≤ n ∧ l4 = v4 ∧ v5 = .int .i64 (S : Int) ∧ v12 = .int .i64 (k : Int) ∧ Hid (S = 8 + (bodyB (ts.take k)).length) ∧ S ≤ 67108864 ∧ Hid (RowsOwn w.heap.size wr l4 (chunks (ts.take k))) ∧ Hid (Grow w wr)) (fun _ _ v12 _ => n - (intOf v12).toNat)
 case atStart => exact ⟨0, 8, _, by omega, rfl, rfl, rfl, by simp [bodyB, Hid], by omega, RowsOwn.nil _ _, Grow.refl w⟩
 case round =>
  obtain ⟨k, S, l4, hk, rfl, rfl, rfl, hS, hSb, hl, hg⟩ := hrel
  by_cases hlt : k < n
  ·obtain ⟨t, ht⟩ : ∃ t, ts[k]? = some t := ⟨_, List.getElem?_eq_getElem (by rw [Hlen.out]; exact hlt)⟩
   have hgz := hg.out.size
   obtain ⟨b, off, A1, n1, c1, rfl, hb, hc0, hc1, hnc1, hcm1, hn47, hr1⟩ := (hT.below (Below.mono hg.out hB)).at_ ht
   have Hm := Lib.hid (part_range hc0 hc1)
   have Hr1 := Lib.hid hr1
   have Hn1 := Lib.hid hr1.len
   have Hch := Lib.hid (chunks_succ ht)
   have Hbs := Lib.hid (bodyB_succ ht)
   have h1 := body_take_le ts (k + 1)
   rw [bodyB_succ ht, List.length_append] at h1
   simp only [partB, List.length_cons, List.length_append] at h1
   have h2 : (bodyB (ts.take k)).length = S - 8 := by have := hS.out; omega
   rw [h2] at h1
   have hlen1 : t.b.length = n1 := Hn1.out
   rw [hlen1] at h1
   obtain ⟨L, hL⟩ : ∃ L, L = (enc n1).length := ⟨_, rfl⟩
   have HL := Lib.hid hL
   rw [← hL] at h1
   have hLe : (enc n1).length ≤ 67108856 := by rw [← HL.out]; omega
   have hS8 : 8 ≤ S := by have := hS.out; omega
   have hb2 : b < wr.heap.size := by omega
   clear ht hc0 hc1 hr1 h2 hlen1 hL
   go_wp2_with (refine wpList_load_mid rfl 40 (.tmp 14) rfl b (off + k * 2) rfl _ _ Hm.out Tryz.underlying40 rfl (by kernel_rfl) ?_)
   have hGa : Grow wr (((wr.alloc (.cells #[.int .u8 (t.tag.toNat : Int), .slice A1 n1 c1] 40)).alloc (.cells #[.slice none 0 0, .bool false] 67)).alloc (.cells #[.int .i64 (n1 : Int)] 3)) := ((Grow.alloc _ _).trans (Grow.alloc _ _)).trans (Grow.alloc _ _)
   have hb0 : Blk (((wr.alloc (.cells #[.int .u8 (t.tag.toNat : Int), .slice A1 n1 c1] 40)).alloc (.cells #[.slice none 0 0, .bool false] 67)).alloc (.cells #[.int .i64 (n1 : Int)] 3)) wr.heap.size 40 #[.int .u8 (t.tag.toNat : Int), .slice A1 n1 c1] := ((Blk.new _ _ _).alloc _).alloc _
   have hb1 : Blk (((wr.alloc (.cells #[.int .u8 (t.tag.toNat : Int), .slice A1 n1 c1] 40)).alloc (.cells #[.slice none 0 0, .bool false] 67)).alloc (.cells #[.int .i64 (n1 : Int)] 3)) (wr.heap.size + 1) 67 #[.slice none 0 0, .bool false] := by
    have h := (Blk.new (wr.alloc (.cells #[.int .u8 (t.tag.toNat : Int), .slice A1 n1 c1] 40)) 67 #[.slice none 0 0, .bool false]).alloc (.cells #[.int .i64 (n1 : Int)] 3)
    simpa using h
   have hb2 : Blk (((wr.alloc (.cells #[.int .u8 (t.tag.toNat : Int), .slice A1 n1 c1] 40)).alloc (.cells #[.slice none 0 0, .bool false] 67)).alloc (.cells #[.int .i64 (n1 : Int)] 3)) (wr.heap.size + 1 + 1) 3 #[.int .i64 (n1 : Int)] := by
    have h := Blk.new ((wr.alloc (.cells #[.int .u8 (t.tag.toNat : Int), .slice A1 n1 c1] 40)).alloc (.cells #[.slice none 0 0, .bool false] 67)) 3 #[.int .i64 (n1 : Int)]
    simpa using h
   have hW0 : Wr 67 (((wr.alloc (.cells #[.int .u8 (t.tag.toNat : Int), .slice A1 n1 c1] 40)).alloc (.cells #[.slice none 0 0, .bool false] 67)).alloc (.cells #[.int .i64 (n1 : Int)] 3)) (wr.heap.size + 1) (wr.heap.size + 1) (.slice none 0 0) [] false := ⟨hb1, World.ownsRow_nil _ _ _ _, Nat.le_refl _⟩
   refine (WNumber1_any _ (wr.heap.size + 1) (wr.heap.size + 1) _ [] false (wr.heap.size + 1 + 1) 3 (n1 : Int) hW0 hb2 (by rintro (h | h); exact absurd h (by omega); simp [Value.ownBlock] at h) (by simp)).mono ?_
   rintro e W1 ⟨rfl, vw, lw, bw, h3, h4, h5, h6⟩
   have h7 : stOf lw bw = some (enc n1) := by rw [h5, stOf_false, putNum, if_pos ⟨by omega, by simp only [maxNum]; omega⟩, Int.toNat_natCast, List.nil_append]
   obtain rfl : bw = false := by cases bw; rfl; cases h7
   obtain rfl : lw = enc n1 := by injection h7
   have hPb : Blk W1 wr.heap.size 40 #[.int .u8 (t.tag.toNat : Int), .slice A1 n1 c1] := h4.keep.blk hb0 (by rintro (h | h); exact absurd h (by omega); simp [Value.ownBlock] at h)
   have hG1 : Grow wr W1 := Below.trans hGa (Below.mono (hW0.below' h4) (by omega))
   have hRO := hl.out.grow hG1
   have hRlt : ∀ j, l4.ownBlock = some j → w.heap.size ≤ j ∧ j < wr.heap.size := fun j hj => by
    obtain ⟨vs, ho, _⟩ := hl.out
    exact ho.lt j hj
   have hG1z := hG1.size
   have hSl : ∀ j, l4.ownBlock = some j → j < W1.heap.size := fun j hj => Nat.lt_of_lt_of_le (hRlt j hj).2 hG1z
   have hPn : ¬ (l4.ownBlock = some wr.heap.size) := fun h => by have := (hRlt _ h).2; omega
   have hWn : ∀ j, FootS (wr.heap.size + 1) vw j → ¬ (l4.ownBlock = some j) := fun j h1 h2 => by have h3 := h3.ge j h1; have := (hRlt _ h2).2; omega
   have hBe : ∀ W, Keep (fun j => l4.ownBlock = some j) W1 W → BytesAt W W.heap.size A1 n1 t.b := fun W hk =>
    (((Hr1.out.below (Below.mono hG1 (by omega))).below (Below.mono (hk.below (fun j hj => (hRlt j hj).1) (by omega)) hB))).more (by have := hk.size; omega)
   have hAb : 0 < n1 → ∀ ad, A1 = some ad → ¬ (l4.ownBlock = some ad.block) := fun hn ad e h => by have h1 := bytes_blk Hr1.out hn ad e; have := (hRlt _ h).1; omega
   have hcl : (chunks (ts.take k)).length ≤ 100663296 := by rw [chunks_length, List.length_take]; omega
   have HG1 := Lib.hid hG1
   clear hGa hb0 hb1 hb2 hW0 h4 h5 h6 h7 hG1
   have hWk := h3
   clear h3
   have hb8 := hRlt
   clear hRlt
   go_upto_region 8 with (fail)
   go_cut [4] from 21 to 29 (fun v4 wx => ∃ (l5 : Value) (W5 : World), l5 = v4 ∧ W5 = wx ∧ RowsOwn w.heap.size W5 l5 (chunks (ts.take k) ++ [[t.tag], enc n1, t.b]) ∧ Keep (fun j => l4.ownBlock = some j) W1 W5)
   case first Jx Kx hJx hMx =>
    refine wp_region_stages (by kernel_rfl) ?_
    refine anyOrder_pop rfl (by kernel_rfl) ?_
    refine anyOrder_start [8] (Keep (fun j => l4.ownBlock = some j)) (rowsW w.heap.size l4 (chunks (ts.take k)) W1 [[t.tag], enc n1, t.b]) (FactsOn [.is (l4), .is (.pointer (some ⟨wr.heap.size, 0, none⟩)), .is (.int .u8 (t.tag.toNat : Int)), .new1 W1.heap.size hSl 5 (.int .u8 (t.tag.toNat : Int)), .newBytes W1.heap.size hSl (enc n1), .is (.pointer (some ⟨wr.heap.size, 1, none⟩)), .is (.slice A1 n1 c1), .newRows W1.heap.size hSl [[t.tag], enc n1, t.b], .any]) (fun i => 99) keep_trans keep_grow (rowsW.grow) (factsOn_mono _) (by kernel_rfl) (by kernel_rfl) ⟨hRO, Keep.refl _ _⟩ ?_ ?_
    ·refine ⟨?_, ?_, ?_, ?_, ?_, ?_, ?_, ?_, ?_, trivial⟩
     ·refine sF rfl rfl ?_
      intro us vals w3 a' ha hle hW hd hv K hK
      have q4 : a'.tmps[4]? = some (l4) := by rw [ha.out]; kernel_rfl
      exact sV hK rfl
     ·refine sF rfl rfl ?_
      intro us vals w3 a' ha hle hW hd hv K hK
      have q7 : a'.tmps[7]? = some (.pointer (some ⟨wr.heap.size, 0, none⟩)) := by rw [ha.out]; kernel_rfl
      exact sV (v := .pointer (some ⟨wr.heap.size, 0, none⟩)) hK rfl
     ·refine sF rfl rfl ?_
      intro us vals w3 a' ha hle hW hd hv K hK
      obtain ⟨d1, _⟩ := hd
      have q22 : a'.tmps[22]? = some (us 1) := by rw [ha.out]; kernel_rfl
      rw [show us 1 = .pointer (some ⟨wr.heap.size, 0, none⟩) from d1] at q22
      have hc := (hle.blk hPb hPn).cell 0
      exact sV (v := .int .u8 (t.tag.toNat : Int)) hK rfl
     ·refine sF rfl rfl ?_
      intro us vals w3 a' ha hle hW hd hv K hK
      obtain ⟨d2, _⟩ := hd
      have q23 : a'.tmps[23]? = some (us 2) := by rw [ha.out]; kernel_rfl
      rw [show us 2 = .int .u8 (t.tag.toNat : Int) from d2] at q23
      refine step_value (v := .slice (some ⟨w3.heap.size, 0, none⟩) 1 1) (w2 := w3.alloc (.cells #[.int .u8 (t.tag.toNat : Int)] 5)) (by go_simp) (hK _ _ (Grow.alloc _ _) ?_)
      exact ⟨_, rfl, hle.size, Blk.new _ _ _⟩
     ·refine sF rfl rfl ?_
      intro us vals w3 a' ha hle hW hd hv K hK
      have q8 : a'.tmps[8]? = some (.pointer (some ⟨wr.heap.size + 1, 0, none⟩)) := by rw [ha.out]; kernel_rfl
      refine step_call (f := 36) (args := #[.pointer (some ⟨wr.heap.size + 1, 0, none⟩)]) (by go_simp) ?_
      have hb3 := WBytes_any w3 _ _ vw (enc n1) false (hWk.moved hle hWn) (by omega)
      rw [stOf_false, told] at hb3
      refine hb3.mono ?_
      rintro e w4 ⟨r, rfl, hown, hg⟩
      exact ⟨_, rfl, hK _ _ hg (newBytes_own hown hle.size)⟩
     ·refine sF rfl rfl ?_
      intro us vals w3 a' ha hle hW hd hv K hK
      have q7 : a'.tmps[7]? = some (.pointer (some ⟨wr.heap.size, 0, none⟩)) := by rw [ha.out]; kernel_rfl
      exact sV (v := .pointer (some ⟨wr.heap.size, 1, none⟩)) hK rfl
     ·refine sF rfl rfl ?_
      intro us vals w3 a' ha hle hW hd hv K hK
      obtain ⟨d5, _⟩ := hd
      have q26 : a'.tmps[26]? = some (us 5) := by rw [ha.out]; kernel_rfl
      rw [show us 5 = .pointer (some ⟨wr.heap.size, 1, none⟩) from d5] at q26
      have hc := (hle.blk hPb hPn).cell 1
      exact sV (v := .slice A1 n1 c1) hK rfl
     ·refine sF rfl rfl ?_
      intro us vals w3 a' ha hle hW hd hv K hK
      obtain ⟨⟨m3, u3, z3, b3⟩, ⟨x4, u4, l4, m4, b4, z4⟩, d6, _⟩ := hd
      have q24 : a'.tmps[24]? = some (us 3) := by rw [ha.out]; kernel_rfl
      rw [u3] at q24
      have q25 : a'.tmps[25]? = some (us 4) := by rw [ha.out]; kernel_rfl
      rw [u4] at q25
      have q27 : a'.tmps[27]? = some (us 6) := by rw [ha.out]; kernel_rfl
      rw [show us 6 = .slice A1 n1 c1 from d6] at q27
      refine step_value (v := .slice (some ⟨w3.heap.size, 0, none⟩) 3 3) (w2 := w3.alloc (.cells ([(some ⟨m3, 0, none⟩, 1, 1), x4, (A1, n1, c1)].map sliceOf).toArray 28)) (by go_simp; rfl) (hK _ _ (Grow.alloc _ _) ?_)
      refine ⟨_, [(some ⟨m3, 0, none⟩, 1, 1), x4, (A1, n1, c1)], rfl, hle.size, Blk.new _ _ _, RowsOk.grow (w := w3) ⟨⟨Nat.le_refl _, by simp only [maxLen]; omega, ReadsAt.more b3.reads1 b3.lt⟩, ⟨l4, m4, b4⟩, ⟨hnc1, hcm1, hBe w3 hle⟩, trivial⟩ (Grow.alloc _ _), ?_⟩
      intro x hx hn ad e hs
      simp only [List.mem_cons, List.not_mem_nil, or_false] at hx
      rcases hx with rfl | rfl | rfl
      ·injection e with e; subst e; have h9 : m3 < W1.heap.size := hSl _ hs; omega
      ·have := hSl _ hs; have := z4 ad e; omega
      ·exact hAb hn ad e hs
     ·refine stageOf_mem (t := 0) rfl ?_
      intro us vals w3 a' ha hle hW hd hv
      obtain ⟨d0, ⟨m7, vs7, u7, z7, b7, r7, o7⟩, _, _⟩ := hd
      obtain rfl := List.eq_nil_of_length_eq_zero (Nat.le_zero.1 (show vals.length ≤ 0 from Nat.le_of_eq hv))
      refine ⟨wanted_none rfl, fun K hK => ?_⟩
      have q21 : a'.tmps[21]? = some (us 0) := by rw [ha.out]; kernel_rfl
      rw [show us 0 = l4 from d0] at q21
      have q28 : a'.tmps[28]? = some (us 7) := by rw [ha.out]; kernel_rfl
      rw [u7] at q28
      obtain ⟨vs, hown, hok, hap⟩ := hW.1
      have hB3 : w.heap.size ≤ w3.heap.size := by have := hle.size; omega
      have hrd : ReadsAt w3 (m7 + 1) 1 (some ⟨m7, 0, none⟩) 3 (vs7.map sliceOf) := by have h := b7.readsAll; rw [List.length_map, r7.len] at h; exact h
      refine wp_append_reads w3 (.tmp 21) (.tmp 28) rfl partsTy (evalT q21) hown (evalT q28) hrd (slice_one _) (by simp only [maxLen, List.length_cons, List.length_nil]; omega) (by simp only [List.length_cons, List.length_nil]; omega) hB3 ?_
      intro v2 w4 ho hg hat
      exact hK _ _ (Keep.grown hg) ⟨RowsOwn.snoc hok hap r7 o7 ho hg hat, hW.2.trans' (Keep.grown hg)⟩
    ·intro us vals w3 hle hvl hV hvs _
     obtain ⟨x1, rfl⟩ := List.length_eq_one_iff.1 hvl
     have h8 : x1 = us 8 := by have h := hvs 0 (by simp); injection h
     subst h8
     refine lastQ.assign (v := us 8) (s := 29) rfl (by kernel_rfl) ?_
     exact hMx _ _ (Met.intro (hJx _ _ ⟨us 8, us 0, us 1, us 2, us 3, us 4, us 5, us 6, us 7, us 8, ⟨_, _, rfl, rfl, hV⟩, by kernel_rfl⟩))
   case rest =>
    obtain ⟨l5, W5, rfl, rfl, hRO5, hK5⟩ := hcut
    have hW5 := hWk.moved hK5 hWn
    have hP5 := hK5.blk hPb hPn
    have hGw : Below w.heap.size w W5 := Below.trans (Grow.trans hg.out HG1.out) (hK5.below (fun j hj => (hb8 j hj).1) (by omega))
    have HRO5 := Lib.hid hRO5
    have hl1 := enc_pos n1
    have hw33 : IntKind.i64.wrap (1 + ((enc n1).length : Int)) = 1 + ((enc n1).length : Int) := IntWalk.i64_in _ (by omega)
    have hw37 : IntKind.i64.wrap (1 + ((enc n1).length : Int) + (n1 : Int)) = 1 + ((enc n1).length : Int) + (n1 : Int) := IntWalk.i64_in _ (by omega)
    have hw38 : IntKind.i64.wrap ((S : Int) + (1 + ((enc n1).length : Int) + (n1 : Int))) = (S : Int) + (1 + ((enc n1).length : Int) + (n1 : Int)) := IntWalk.i64_in _ (by omega)
    have hF5 : ∀ j, False → j < W5.heap.size := fun _ h => h.elim
    have hkF : Keep (fun _ => False) W5 W5 := Keep.refl _ _
    have HGw := Lib.hid hGw
    have HLt : L = (enc n1).length := HL.out
    have hSb2 : S + (1 + (enc n1).length + n1) ≤ 67108864 := by omega
    have HS2 := Lib.hid (show S + (1 + (enc n1).length + n1) = 8 + (bodyB (ts.take (k + 1))).length by
     have h1 := hS.out
     have h2 := Hn1.out
     rw [Hbs.out, List.length_append, partB, List.length_cons, List.length_append, h2]
     omega)
    clear hRO5 hK5 hWk hPb hWn hPn hGw hRO hSl hb8 hBe hAb HLt
    go_upto_region 9 with (fail)
    go_cut [5] from 30 to 38 (fun v5 wx => ∃ W6 : World, W6 = wx ∧ v5 = .int .i64 ((S : Int) + (1 + ((enc n1).length : Int) + (n1 : Int))) ∧ Grow W5 W6)
    case first Jx Kx hJx hMx =>
     refine wp_region_stages (by kernel_rfl) ?_
     refine anyOrder_pop rfl (by kernel_rfl) ?_
     refine anyOrder_start [] (Keep (fun _ => False)) (fun _ _ => True) (FactsOn [.is (.int .i64 (S : Int)), .newBytes W5.heap.size hF5 (enc n1), .is (.int .i64 ((enc n1).length : Int)), .is (.int .i64 (1 + ((enc n1).length : Int))), .is (.pointer (some ⟨wr.heap.size, 1, none⟩)), .is (.slice A1 n1 c1), .is (.int .i64 (n1 : Int)), .is (.int .i64 (1 + ((enc n1).length : Int) + (n1 : Int))), .is (.int .i64 ((S : Int) + (1 + ((enc n1).length : Int) + (n1 : Int))))]) (fun i => 99) keep_trans keep_grow (fun _ _ _ _ h => h) (factsOn_mono _) (by kernel_rfl) (by kernel_rfl) trivial ?_ ?_
     ·refine ⟨?_, ?_, ?_, ?_, ?_, ?_, ?_, ?_, ?_, trivial⟩
      ·refine sF rfl rfl ?_
       intro us vals w3 a' ha hle hW hd hv K hK
       have q5 : a'.tmps[5]? = some (.int .i64 (S : Int)) := by rw [ha.out]; kernel_rfl
       exact sV hK rfl
      ·refine sF rfl rfl ?_
       intro us vals w3 a' ha hle hW hd hv K hK
       have q8 : a'.tmps[8]? = some (.pointer (some ⟨wr.heap.size + 1, 0, none⟩)) := by rw [ha.out]; kernel_rfl
       refine step_call (f := 36) (args := #[.pointer (some ⟨wr.heap.size + 1, 0, none⟩)]) (by go_simp) ?_
       have hb3 := WBytes_any w3 _ _ vw (enc n1) false (hW5.grow hle.toGrow) (by omega)
       rw [stOf_false, told] at hb3
       refine hb3.mono ?_
       rintro e w4 ⟨r, rfl, hown, hg4⟩
       exact ⟨_, rfl, hK _ _ hg4 (newBytes_own hown hle.size)⟩
      ·refine sF rfl rfl ?_
       intro us vals w3 a' ha hle hW hd hv K hK
       obtain ⟨⟨x1, u1, l1, m1, b1, z1⟩, _⟩ := hd
       have q31 : a'.tmps[31]? = some (us 1) := by rw [ha.out]; kernel_rfl
       rw [u1] at q31
       rw [show sliceOf x1 = .slice x1.1 x1.2.1 x1.2.2 from rfl] at q31
       refine step_value (v := .int .i64 ((enc n1).length : Int)) (w2 := w3) ?_ (hK _ _ (Grow.refl _) rfl)
       rw [BytesAt.len b1]
       go_simp
      ·refine sF rfl rfl ?_
       intro us vals w3 a' ha hle hW hd hv K hK
       obtain ⟨d2, _⟩ := hd
       have q32 : a'.tmps[32]? = some (us 2) := by rw [ha.out]; kernel_rfl
       rw [show us 2 = .int .i64 ((enc n1).length : Int) from d2] at q32
       exact sV (v := .int .i64 (1 + ((enc n1).length : Int))) hK rfl
      ·refine sF rfl rfl ?_
       intro us vals w3 a' ha hle hW hd hv K hK
       have q7 : a'.tmps[7]? = some (.pointer (some ⟨wr.heap.size, 0, none⟩)) := by rw [ha.out]; kernel_rfl
       exact sV (v := .pointer (some ⟨wr.heap.size, 1, none⟩)) hK rfl
      ·refine sF rfl rfl ?_
       intro us vals w3 a' ha hle hW hd hv K hK
       obtain ⟨d4, _⟩ := hd
       have q34 : a'.tmps[34]? = some (us 4) := by rw [ha.out]; kernel_rfl
       rw [show us 4 = .pointer (some ⟨wr.heap.size, 1, none⟩) from d4] at q34
       have hc := (hle.blk hP5 (fun h => h)).cell 1
       exact sV (v := .slice A1 n1 c1) hK rfl
      ·refine sF rfl rfl ?_
       intro us vals w3 a' ha hle hW hd hv K hK
       obtain ⟨d5, _⟩ := hd
       have q35 : a'.tmps[35]? = some (us 5) := by rw [ha.out]; kernel_rfl
       rw [show us 5 = .slice A1 n1 c1 from d5] at q35
       exact sV (v := .int .i64 (n1 : Int)) hK rfl
      ·refine sF rfl rfl ?_
       intro us vals w3 a' ha hle hW hd hv K hK
       obtain ⟨d3, d6, _⟩ := hd
       have q33 : a'.tmps[33]? = some (us 3) := by rw [ha.out]; kernel_rfl
       rw [show us 3 = .int .i64 (1 + ((enc n1).length : Int)) from d3] at q33
       have q36 : a'.tmps[36]? = some (us 6) := by rw [ha.out]; kernel_rfl
       rw [show us 6 = .int .i64 (n1 : Int) from d6] at q36
       exact sV (v := .int .i64 (1 + ((enc n1).length : Int) + (n1 : Int))) hK rfl
      ·refine sF rfl rfl ?_
       intro us vals w3 a' ha hle hW hd hv K hK
       obtain ⟨d0, d7, _⟩ := hd
       have q30 : a'.tmps[30]? = some (us 0) := by rw [ha.out]; kernel_rfl
       rw [show us 0 = .int .i64 (S : Int) from d0] at q30
       have q37 : a'.tmps[37]? = some (us 7) := by rw [ha.out]; kernel_rfl
       rw [show us 7 = .int .i64 (1 + ((enc n1).length : Int) + (n1 : Int)) from d7] at q37
       exact sV (v := .int .i64 ((S : Int) + (1 + ((enc n1).length : Int) + (n1 : Int)))) hK rfl
     ·intro us vals w3 hle hvl _ _ hf
      have h8 : us 8 = .int .i64 ((S : Int) + (1 + ((enc n1).length : Int) + (n1 : Int))) := hf 8 (by decide) rfl
      refine lastQ.assign (v := us 8) (s := 38) rfl (by kernel_rfl) ?_
      exact hMx _ _ (Met.intro (hJx _ _ ⟨us 8, us 0, us 1, us 2, us 3, us 4, us 5, us 6, us 7, us 8, ⟨_, rfl, h8, hle.toGrow⟩, by kernel_rfl⟩))
    case rest =>
     obtain ⟨W6, rfl, rfl, hG6⟩ := hcut
     have hd : decide ((67108864 : Int) < (S : Int) + (1 + ((enc n1).length : Int) + (n1 : Int))) = false := decide_eq_false (by omega)
     have HRO6 := Lib.hid (show RowsOwn w.heap.size W6 l5 (chunks (ts.take (k + 1))) by rw [Hch.out, Hn1.out]; exact HRO5.out.grow hG6)
     have HG6 := Lib.hid (show Grow w W6 from Below.trans HGw.out (Below.mono hG6 HGw.out.size))
     clear hw33 hw37 hw38 hkF hF5 hW5 hP5 hG6
     go_wp2
     go_roundw
     case rel => exact ⟨k + 1, S + (1 + (enc n1).length + n1), l5, by omega, rfl, by go_num, by go_num, HS2, hSb2, HRO6, HG6⟩
     case measure => simp [intOf]; omega
  ·obtain rfl : k = n := by omega
   have htk : ts.take k = ts := List.take_of_length_le (by rw [Hlen.out]; exact Nat.le_refl _)
   have hl2 := hl.out
   have hS2 := hS.out
   rw [htk] at hl2 hS2
   obtain ⟨A4, c4, rfl, h41, h42, h43⟩ := hl2.rows
   obtain ⟨x, hx⟩ : ∃ x : BitVec 32, x.toNat = S := ⟨BitVec.ofNat 32 S, by simp only [BitVec.toNat_ofNat]; omega⟩
   have hhd : fourB x ++ bodyB ts = headB ts := by
    rw [headB]
    congr 2
    apply BitVec.eq_of_toNat_eq
    rw [hx, hS2]
    simp only [BitVec.toNat_ofNat]
    omega
   have Hhd := Lib.hid hhd
   have hfx := ffixed_any wr x
   rw [hx] at hfx
   have Hfx := Lib.hid hfx
   have hcl := chunks_length ts
   have hmx : (chunks ts).length ≤ maxLen := by
    have := Hlen.out
    simp only [maxLen]
    omega
   have Hmx := Lib.hid hmx
   have hbx : (bodyB ts).length + 8 ≤ 67108864 := by omega
   have hgz := hg.out.size
   clear htk hl2 hS2 hx hhd hfx hcl hl hmx
   go_wp2_with fail
   refine Hfx.out.mono ?_
   rintro e w1 ⟨r1, B1, rfl, hB1, ho1, hg1⟩
   obtain ⟨A5, c5, rfl, h51, h52, h53⟩ := own_reads ho1
   have hz1 := hg1.size
   go_wp2_with fail
   refine (Concat_any w1 wr.heap.size A4 _ c4 (chunks ts) (h43.below hg1) hz1 Hmx.out (by rw [chunks_flatten]; omega)).mono ?_
   rintro e w2 ⟨r2, rfl, ho2, hg2⟩
   rw [chunks_flatten] at ho2
   obtain ⟨A6, c6, rfl, h61, h62, h63⟩ := own_reads ho2
   have hz2 := hg2.size
   have hro : RowsOk w2 [(A5, (fourB x).length, c5), (A6, (bodyB ts).length, c6)] [fourB x, bodyB ts] := ⟨⟨h51, h52, ReadsAt.more (ReadsAt.below h53 hg2) hz2⟩, ⟨h61, h62, h63⟩, trivial⟩
   have hra := RowsAt.made w2 28 _ _ hro
   have Hra := Lib.hid hra
   have hz3 : w2.heap.size + 1 ≤ (w2.alloc (.cells #[.slice A5 (fourB x).length c5, .slice A6 (bodyB ts).length c6] 28)).heap.size := by simp
   have Hz3 := Lib.hid hz3
   clear hro hra hz3 h43 ho1 ho2 h53 h63
   go_wp2_with fail
   refine (Concat_any _ (w2.heap.size + 1) _ 2 2 [fourB x, bodyB ts] Hra.out Hz3.out (by simp only [maxLen]; omega) (by simp [fourB]; omega)).mono ?_
   rintro e w3 ⟨r3, rfl, ho3, hg3⟩
   have hfl : [fourB x, bodyB ts].flatten = headB ts := by rw [← Hhd.out]; simp
   rw [hfl] at ho3
   obtain ⟨A7, c7, rfl, h71, h72, h73⟩ := own_reads ho3
   have Ho3 := Lib.hid ho3
   have H73 := Lib.hid h73
   have hG3 : Grow w2 w3 := (Grow.alloc _ _).trans hg3
   have HG3 := Lib.hid (show Grow w w3 from ((hg.out.trans hg1).trans hg2).trans hG3)
   have hhl : (headB ts).length ≤ 67108860 := by rw [headB_len]; omega
   clear ho3 hfl hg3 h73 hG3
   go_wp2_with fail
   refine (Sum_new w3 w3.heap.size A7 _ c7 (headB ts) H73.out (Nat.le_refl _) h71 h72).mono ?_
   rintro e w4 ⟨rfl, hb4⟩
   go_wp2_with fail
   refine (ffixed_any w4 (CrcM.sum (headB ts))).mono ?_
   rintro e w5 ⟨r5, B5, rfl, hB5, ho5, hg5⟩
   obtain ⟨A8, c8, rfl, h81, h82, h83⟩ := own_reads ho5
   have hG5 : Grow w3 w5 := Grow.trans hb4 hg5
   have Ho5 := Lib.hid (show w5.ownsRow (w2.heap.size + 1) 5 1 (.slice A7 (headB ts).length c7) (headB ts).length ((headB ts).map b8) from own_below (own_base Ho3.out (by simp)) hG5)
   have H83 := Lib.hid h83
   have hz5 := hG5.size
   have hz6 := HG3.out.size
   have hz7 : w2.heap.size + 1 ≤ w5.heap.size := by
    have h1 := Ho3.out
    rcases h1.2 with ⟨_, h0⟩ | ⟨q, _, _, hq, _⟩
    ·rw [headB_len] at h0; omega
    ·have := h1.lt q (by rw [hq]; rfl)
     simp at this
     omega
   have hle5 : w.heap.size ≤ w2.heap.size + 1 := by omega
   have hf4 : (fourB (CrcM.sum (headB ts))).length = 4 := rfl
   have Hf4 := Lib.hid hf4
   clear ho5 h83 hb4 hg5 hf4
   go_wp2_with (at_builtin; refine wpList_append_reads _ rfl (.tmp 49) (.tmp 53) rfl bytesTy rfl Ho5.out rfl H83.out (b8_one _) (by rw [Hf4.out]; simp only [maxLen]; omega) (by rw [Hf4.out]; omega) hz7 ?_; intro v' w6 hown6 hgrow6 hat6)
   go_ret2
   have hfin : fileB ts = headB ts ++ fourB (CrcM.sum (headB ts)) := rfl
   refine ⟨v', rfl, ?_, ?_⟩
   ·rw [hfin, List.length_append, List.map_append]
    exact own_base hown6 hle5
   ·exact Below.grown (Below.trans HG3.out (Below.mono hG5 hz6)) hgrow6 (by omega) fun q hq => by have := (Ho5.out.lt q hq).1; omega
end Go.Proofs.YtcimkoehcdfjdaaGreatDoor
