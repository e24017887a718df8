/-
  The walk of frame's reader.next: the part that stands there.
-/
import Derived.Test.YtcimkoehcdfjdaaGreatDoorBaseF
import Derived.Test.YtcimkoehcdfjdaaGreatDoorFrameMath
import Derived.Test.YtcimkoehcdfjdaaGreatDoorOwnRows
import Derived.Test.YtcimkoehcdfjdaaGreatDoorBaseA
import Derived.BigQuiet
import Derived.Laws.Rows
namespace Go.Proofs.YtcimkoehcdfjdaaGreatDoor
open Go.RowKit WireM

/-- frame's reader at block R: over wire's one at g, in which the bytes l of the bytes b are left -/
structure FRd (w : World) (B R : Nat) (A : Option Addr) (n c : Nat) (b : List UInt8) (g : Nat) (l : List UInt8) (bad : Bool) : Prop where
  cell : Blk w R 154 #[.pointer (some ⟨g, 0, none⟩), .slice A n c]
  rd : ∃ A' n' c', Rd w g A' n' c' l bad
  bytes : BytesAt w B A n b
  base : B ≤ R
  tail : bad = false → l.length ≤ n ∧ b.drop (n - l.length) = l
  nc : n ≤ c
  cm : c ≤ maxLen
  small : n ≤ 67108864
/-- blocks that are no reader's -/
def OffR (w : World) (B : Nat) (S : Nat → Prop) : Prop := ∀ k, S k → B ≤ k ∧ ∀ cs t, w.heap[k]? = some (.cells cs t (0, 0)) → t ≠ 5 ∧ t ≠ 154 ∧ t ≠ 161
section
variable {w w1 : World} {B R n c g : Nat} {A : Option Addr} {b l : List UInt8} {bad : Bool} {S : Nat → Prop}
theorem FRd.kept (h : FRd w B R A n c b g l bad) (hk : Keep S w w1) (hS : OffR w B S) (hB : B ≤ w.heap.size) : FRd w1 B R A n c b g l bad := by
  obtain ⟨A', n', c', hr⟩ := h.rd
  refine ⟨hk.blk h.cell fun hs => ((hS R hs).2 _ _ h.cell).2.1 rfl, ⟨A', n', c', hr.kept hk (fun hs => ((hS g hs).2 _ _ hr.cell).2.2 rfl) fun ad e hs => ?_⟩, ?_, h.base, h.tail, h.nc, h.cm, h.small⟩
  · obtain ⟨cs, q⟩ := hr.ty ad e
    exact ((hS _ hs).2 _ _ q).1 rfl
  · exact hk.reads' h.bytes hB fun hn ad e hs => by have h1 := bytes_blk h.bytes hn ad e; have h2 := (hS _ hs).1; omega
theorem FRd.grow (h : FRd w B R A n c b g l bad) (hg : Grow w w1) (hB : B ≤ w.heap.size) : FRd w1 B R A n c b g l bad := h.kept (S := fun _ => False) (Keep.grow hg) (fun _ h => h.elim) hB
end
/-- what next leaves -/
def NextTo (w : World) (B R : Nat) (A : Option Addr) (n c : Nat) (b : List UInt8) (tag : UInt8) (r : List UInt8) (e : Ending) (w' : World) : Prop :=
  ∃ (g : Nat) (l : List UInt8) (bad : Bool) (v : Value) (Bv : Nat), e = .returned (.agg #[.int .u8 (tag.toNat : Int), v]) ∧ FRd w' B R A n c b g l bad ∧ stOf l bad = (text 67108864 (some r)).2 ∧ w.heap.size ≤ Bv ∧ w'.ownsRow Bv 5 1 v (text 67108864 (some r)).1.length ((text 67108864 (some r)).1.map b8) ∧ Keep (Own1 R) w w'

theorem tail_text {n : Nat} {b r l : List UInt8} {tag : UInt8} (h1 : (tag :: r).length ≤ n) (h2 : b.drop (n - (tag :: r).length) = tag :: r) (hb : b.length = n) {x : List UInt8} (ht : text 67108864 (some r) = (x, some l)) : l.length ≤ n ∧ b.drop (n - l.length) = l := by
  have e := (text_one ht).1
  have hl := text_less ht
  simp only [List.length_cons] at h1 h2
  refine ⟨by omega, ?_⟩
  have e2 : n - l.length = (n - (r.length + 1)) + (1 + (r.length - l.length)) := by omega
  have e3 : r.length - l.length = (enc x.length ++ x).length := by
    have h3 := congrArg List.length e
    rw [List.length_append] at h3
    omega
  rw [e2, ← List.drop_drop, h2, Nat.add_comm 1, List.drop_succ_cons, e3]
  conv => lhs; rw [e]
  exact List.drop_left

set_option maxRecDepth 100000 in
set_option maxHeartbeats 4000000 in
theorem fnext_any (w : World) (B R : Nat) (A : Option Addr) (n c : Nat) (b : List UInt8) (g : Nat) (tag : UInt8) (r : List UInt8) (h : FRd w B R A n c b g (tag :: r) false) (hB : B ≤ w.heap.size) :
    Calls Tryz.prog 142 #[.pointer (some ⟨R, 0, none⟩)] w (NextTo w B R A n c b tag r) := by
  have bytesTy : AppTy Tryz.prog 28 5 (.int .u8 0) 1 1 := AppTy.mk' Tryz.underlying28 (by kernel_rfl) rfl (by decide)
  obtain ⟨A', n', c', hr⟩ := h.rd
  obtain ⟨hln, hdr⟩ := h.tail rfl
  have hbl := h.bytes.len
  have htt := fun (x l : List UInt8) (ht : text 67108864 (some r) = (x, some l)) => tail_text hln hdr hbl ht
  obtain ⟨q, hq⟩ : ∃ q, q = (tag :: r).length := ⟨_, rfl⟩
  have hr1 : r.length + 1 = q := by rw [hq]; rfl
  rw [← hq] at hln hdr
  obtain ⟨m, hm⟩ : ∃ m, m = n - q := ⟨_, rfl⟩
  rw [← hm] at hdr
  have hmn : m < n := by omega
  have hgt : b[m]? = some tag := by
    have e : (b.drop m)[0]? = some tag := by rw [hdr]; rfl
    rwa [List.getElem?_drop, Nat.add_zero] at e
  have hd1 : b.drop (m + 1) = r := by
    rw [← List.drop_drop, hdr]
    rfl
  obtain ⟨bb, off, rfl, hbb, hcl⟩ := h.bytes.at_ (by omega)
  have hcb := hcl m tag hgt
  have hcR0 := h.cell.cell 0
  have hcR1 := h.cell.cell 1
  have hRl := h.cell.lt
  have hfR := h.cell.frozen 0
  have hnc := h.nc
  have hcm := h.cm
  unfold maxLen at hcm
  have hsm := h.small
  have hgl := hr.cell.lt
  have hbbl : bb < w.heap.size := by omega
  have hG0 : Grow w (w.alloc (.cells #[.int .u8 0, .slice none 0 0] 40)) := Grow.alloc _ _
  have HL := Lib.hid (show ∀ k, Calls Tryz.prog 51 #[.pointer (some ⟨g, 0, none⟩)] ((w.alloc (.cells #[.int .u8 0, .slice none 0 0] 40)).drewN k) fun e w' => e = .returned (.int .i64 (q : Int)) ∧ (w.alloc (.cells #[.int .u8 0, .slice none 0 0] 40)).drewN k = w' from fun k => by
    have h1 := RLeft_any ((w.alloc (.cells #[.int .u8 0, .slice none 0 0] 40)).drewN k) g A' n' c' (tag :: r) false (hr.grow (hG0.trans (Grow.drewN _ _)))
    rw [stOf_false] at h1
    rw [hq]
    exact h1)
  have hw : IntKind.i64.wrap ((n : Int) - (q : Int)) = (m : Int) := by
    rw [show (n : Int) - (q : Int) = (m : Int) by omega]
    exact IntWalk.i64_in _ (by omega)
  have Hm := Lib.hid hm
  have Hq := Lib.hid hq
  have Hr1 := Lib.hid hr1
  have Hd1 := Lib.hid hd1
  have Htt := Lib.hid htt
  have Hbl := Lib.hid hbl
  have Hcl := Lib.hid hcl
  have hcb0 := Lib.hid hcb
  clear hm hq hr1 hd1 htt hbl hdr hgt hcl
  go_enter Tryz.func142, Tryz.ntmps142
  go_wp2
  go_quiet ((go_at_call 51; exact quiet_left (HL.out _)))
  obtain ⟨W0, hW0⟩ : ∃ W0, (w.alloc (.cells #[.int .u8 0, .slice none 0 0] 40)).drewN nq = W0 := ⟨_, rfl⟩
  have hG1 : Grow w W0 := by rw [← hW0]; exact hG0.trans (Grow.drewN _ _)
  have hP0 : Blk W0 w.heap.size 40 #[.int .u8 0, .slice none 0 0] := by rw [← hW0]; exact Blk.new _ _ _
  rw [hW0]
  clear hcR0 hcR1 hcb hfR hW0
  have hcR0 : W0.cell? ⟨R, 0, none⟩ = _ := (h.cell.below hG1 hRl).cell 0
  have hcR1 : W0.cell? ⟨R, 1, none⟩ = _ := (h.cell.below hG1 hRl).cell 1
  have hcb : W0.cell? ⟨bb, off + m, none⟩ = some (.int .u8 (tag.toNat : Int)) := (Below.cell (p := ⟨bb, off + m, none⟩) hG1 hbbl).trans hcb0.out
  have hcP := hP0.cell 0
  have hfP := hP0.frozen 0
  have hcut := fun W => run_cut_tail bytesTy (some ⟨bb, off, none⟩) n c (m + 1) .i64 ((m : Int) + 1) (by omega) hmn W
  have hPR : w.heap.size ≠ R := by omega
  go_wp2_with fail
  have hz0 : W0.heap.size ≤ (W0.setCell ⟨w.heap.size, 0, none⟩ (.int .u8 (tag.toNat : Int))).heap.size := by rw [size_setCell]; exact Nat.le_refl _
  have hP1 : Blk (W0.setCell ⟨w.heap.size, 0, none⟩ (.int .u8 (tag.toNat : Int))) w.heap.size 40 #[.int .u8 (tag.toNat : Int), .slice none 0 0] := by
    have := hP0.set 0 (.int .u8 (tag.toNat : Int))
    simpa using this
  have hB1 : Below w.heap.size w (W0.setCell ⟨w.heap.size, 0, none⟩ (.int .u8 (tag.toNat : Int))) := Below.setCell hG1 (Nat.le_refl _) _
  have hR1 := h.cell.below hB1 hRl
  have hT1 : BytesAt (W0.setCell ⟨w.heap.size, 0, none⟩ (.int .u8 (tag.toNat : Int))) B (cutA (some ⟨bb, off, none⟩) c (m + 1) 1) (n - (m + 1)) r := by
    have h1 := (h.bytes.below (Below.mono hB1 hB)).tail (m + 1) hmn hnc
    rw [Hd1.out] at h1
    exact h1
  have hgz := hG1.size
  have hPl := hP0.lt
  refine (Read_any _ B _ _ _ r hT1 (by omega) (by omega)).mono ?_
  rintro e w1 ⟨g1, A1, c1, rfl, hg1, hd1, hG2⟩
  have hP2 := hP1.below hG2 hP1.lt
  have hR2 := hR1.below hG2 hR1.lt
  have hc2 := hR2.cell 0
  have hf2 := hR2.frozen 0
  have hg1R : g1 ≠ R := by omega
  have hPg : w.heap.size ≠ g1 := by omega
  have hk2 := Keep.setCell w1 ⟨R, 0, none⟩ (.pointer (some ⟨g1, 0, none⟩))
  have hd2 := hd1.kept hk2 hg1R (fun ad e hs => by
    obtain ⟨cs, q⟩ := hd1.ty ad e
    rw [show ad.block = R from hs] at q
    unfold Blk at hR2
    rw [hR2] at q
    cases q)
  have hR3 : Blk (w1.setCell ⟨R, 0, none⟩ (.pointer (some ⟨g1, 0, none⟩))) R 154 #[.pointer (some ⟨g1, 0, none⟩), .slice (some ⟨bb, off, none⟩) n c] := by
    have := hR2.set 0 (.pointer (some ⟨g1, 0, none⟩))
    simpa using this
  have hP3 := hP2.far (p := ⟨R, 0, none⟩) hPR (.pointer (some ⟨g1, 0, none⟩))
  have hkA : Keep (Own1 R) w (w1.setCell ⟨R, 0, none⟩ (.pointer (some ⟨g1, 0, none⟩))) := by
    exact Keep.trans (Keep.trans (Keep.grow (S := Own1 R) hB1) (Keep.grow (S := Own1 R) hG2) fun _ hj => Or.inl hj) hk2 fun _ hj => Or.inl hj
  have hr140 : r.length ≤ 140737488355328 := by have := Hr1.out; omega
  have HR3 := Lib.hid hR3
  have HkA := Lib.hid hkA
  clear hR3 hkA hR1 hR2 hT1 hd1
  go_wp2_with fail
  refine (RText_any _ g1 A1 _ c1 r false 67108864 hd2 hr140).mono ?_
  rintro e w2 ⟨v, Bv, rfl, hBv, hown, A2, n2, c2, l2, bad2, hd3, hs3, hl3, hk3⟩
  rw [stOf_false] at hown hs3
  obtain ⟨A5, c5, rfl, h51, h52, h53⟩ := own_reads hown
  have hP4 := hk3.blk hP3 hPg
  have hR4 := hk3.blk HR3.out (fun e => hg1R (Eq.symm e))
  have hcP0 := hP4.cell 0
  have hcP1 := hP4.cell 1
  have hfP1 := hP4.frozen 1
  have hfP0 := hP4.frozen 0
  have hz3 : w1.heap.size ≤ w2.heap.size := by have := hk3.size; rw [size_setCell] at this; exact this
  have Hown := Lib.hid hown
  have Hs3 := Lib.hid hs3
  have Hd3 := Lib.hid hd3
  have Hk3 := Lib.hid hk3
  have H53 := Lib.hid h53
  clear hown hs3 hd3 hk3 h53
  go_wp2_with fail
  have hP5 := ((hP4.set 1 (.slice A5 (text 67108864 (some r)).1.length c5)).set 0 (.int .u8 (tag.toNat : Int))).set 1 (.slice A5 (text 67108864 (some r)).1.length c5)
  have hkP := ((Keep.setCell w2 ⟨w.heap.size, 1, none⟩ (.slice A5 (text 67108864 (some r)).1.length c5)).trans' (Keep.setCell _ ⟨w.heap.size, 0, none⟩ (.int .u8 (tag.toNat : Int)))).trans' (Keep.setCell _ ⟨w.heap.size, 1, none⟩ (.slice A5 (text 67108864 (some r)).1.length c5))
  have hz1 : w.heap.size < w1.heap.size := by have := hG2.size; omega
  have hb2 : Below B w w2 := Below.trans (HkA.out.below (fun k hk => by rw [show k = R from hk]; exact h.base) hB) (Hk3.out.below (fun k hk => by rw [show k = g1 from hk]; omega) (by rw [size_setCell]; omega))
  have hF2 : FRd w2 B R (some ⟨bb, off, none⟩) n c b g1 l2 bad2 := ⟨hR4, ⟨_, _, _, Hd3.out⟩, h.bytes.below hb2, h.base, fun hb => Htt.out _ l2 (by
    have h1 := Hs3.out
    rw [hb, stOf_false] at h1
    exact Prod.ext rfl h1.symm), h.nc, h.cm, h.small⟩
  refine bodyPost_ret (results_cell_row rfl _ _ w.heap.size 40 _ (0, 0) _ rfl hP5 Tryz.underlying40 rfl (by kernel_rfl)) rfl ⟨g1, l2, bad2, _, Bv, rfl, hF2.kept hkP (fun k hk => ⟨by rw [show k = w.heap.size from hk]; exact hB, fun cs t ht => ?_⟩) (by omega), Hs3.out, ?_, hkP.own Hown.out fun k hk e => ?_, ?_⟩
  · rw [show k = w.heap.size from hk, show w2.heap[w.heap.size]? = _ from hP4] at ht
    cases ht
    decide
  · rw [size_setCell] at hBv
    omega
  · have h1 := (Hown.out.lt k hk).1
    rw [size_setCell] at hBv
    rw [show k = w.heap.size from e] at h1
    omega
  · exact (HkA.out.trans Hk3.out fun k hk => Or.inr (by rw [show k = g1 from hk]; omega)).trans hkP fun k hk => Or.inr (by rw [show k = w.heap.size from hk]; exact Nat.le_refl _)
end Go.Proofs.YtcimkoehcdfjdaaGreatDoor
