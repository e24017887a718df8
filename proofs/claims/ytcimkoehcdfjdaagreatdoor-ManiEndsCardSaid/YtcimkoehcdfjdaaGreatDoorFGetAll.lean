/-
  The walk of frame's reader.next: the part that stands there.
  The walks of frame's reader.all: the closure that goes through the parts.
  Words for the walk of frame's Get: parts that the call owns; a chain of readers that turn; what the rounds keep. No program is in sight, but for the numbers of types.
  The walk of frame's Get: the parts of a file.
-/
import Derived.Test.YtcimkoehcdfjdaaGreatDoorBaseF
import Derived.Test.YtcimkoehcdfjdaaGreatDoorFrameMath
import Derived.Test.YtcimkoehcdfjdaaGreatDoorOwnRows
import Derived.Test.YtcimkoehcdfjdaaGreatDoorBaseA
import Derived.BigQuiet
import Derived.Laws.Rows
import Derived.Test.YtcimkoehcdfjdaaGreatDoorWNumber
import Derived.Test.YtcimkoehcdfjdaaGreatDoorBaseE
import Derived.Test.YtcimkoehcdfjdaaGreatDoorCrcA
namespace Go.Proofs.YtcimkoehcdfjdaaGreatDoor
open Go.RowKit WireM

structure FRd (w : World) (B R : Nat) (A : Option Addr) (n c : Nat) (b : List UInt8) (g : Nat) (l : List UInt8) (bad : Bool) : Prop where
 cell : Blk w R 154 #[.pointer (some ⟨g, 0, none⟩), .slice A n c]
 rd : ∃ A' n' c', Rd w g A' n' c' l bad
 bytes : BytesAt w B A n b
 base : B ≤ R
 tail : bad = false → l.length ≤ n ∧ b.drop (n - l.length) = l
 nc : n ≤ c
 cm : c ≤ maxLen
 small : n ≤ 67108864
def OffR (w : World) (B : Nat) (S : Nat → Prop) : Prop := ∀ k, S k → B ≤ k ∧ ∀ cs t, w.heap[k]? = some (.cells cs t (0, 0)) → t ≠ 5 ∧ t ≠ 154 ∧ t ≠ 161
section
variable {w w1 : World} {B R n c g : Nat} {A : Option Addr} {b l : List UInt8} {bad : Bool} {S : Nat → Prop}
theorem FRd.kept (h : FRd w B R A n c b g l bad) (hk : Keep S w w1) (hS : OffR w B S) (hB : B ≤ w.heap.size) : FRd w1 B R A n c b g l bad := by
 obtain ⟨A', n', c', hr⟩ := h.rd
 refine ⟨hk.blk h.cell fun hs => ((hS R hs).2 _ _ h.cell).2.1 rfl, ⟨A', n', c', hr.kept hk (fun hs => ((hS g hs).2 _ _ hr.cell).2.2 rfl) fun ad e hs => ?_⟩, ?_, h.base, h.tail, h.nc, h.cm, h.small⟩
 ·obtain ⟨cs, q⟩ := hr.ty ad e
  exact ((hS _ hs).2 _ _ q).1 rfl
 ·exact hk.reads' h.bytes hB fun hn ad e hs => by have h1 := bytes_blk h.bytes hn ad e; have h2 := (hS _ hs).1; omega
theorem FRd.grow (h : FRd w B R A n c b g l bad) (hg : Grow w w1) (hB : B ≤ w.heap.size) : FRd w1 B R A n c b g l bad := h.kept (S := fun _ => False) (Keep.grow hg) (fun _ h => h.elim) hB
end
def NextTo (w : World) (B R : Nat) (A : Option Addr) (n c : Nat) (b : List UInt8) (tag : UInt8) (r : List UInt8) (e : Ending) (w' : World) : Prop :=
 ∃ (g : Nat) (l : List UInt8) (bad : Bool) (v : Value) (Bv : Nat), e = .returned (.agg #[.int .u8 (tag.toNat : Int), v]) ∧ FRd w' B R A n c b g l bad ∧ stOf l bad = (text 67108864 (some r)).2 ∧ w.heap.size ≤ Bv ∧ w'.ownsRow Bv 5 1 v (text 67108864 (some r)).1.length ((text 67108864 (some r)).1.map b8) ∧ Keep (Own1 R) w w'

theorem tail_text {n : Nat} {b r l : List UInt8} {tag : UInt8} (h1 : (tag :: r).length ≤ n) (h2 : b.drop (n - (tag :: r).length) = tag :: r) (hb : b.length = n) {x : List UInt8} (ht : text 67108864 (some r) = (x, some l)) : l.length ≤ n ∧ b.drop (n - l.length) = l := by
 have e := (text_one ht).1
 have hl := text_less ht
 simp only [List.length_cons] at h1 h2
 refine ⟨by omega, ?_⟩
 have e2 : n - l.length = (n - (r.length + 1)) + (1 + (r.length - l.length)) := by omega
 have e3 : r.length - l.length = (enc x.length ++ x).length := by
  have h3 := congrArg List.length e
  rw [List.length_append] at h3
  omega
 rw [e2, ← List.drop_drop, h2, Nat.add_comm 1, List.drop_succ_cons, e3]
 conv => lhs; rw [e]
 exact List.drop_left

set_option maxRecDepth 100000 in
set_option maxHeartbeats 4000000 in
theorem fnext_any (w : World) (B R : Nat) (A : Option Addr) (n c : Nat) (b : List UInt8) (g : Nat) (tag : UInt8) (r : List UInt8) (h : FRd w B R A n c b g (tag :: r) false) (hB : B ≤ w.heap.size) :
  Calls Tryz.prog 142 #[.pointer (some ⟨R, 0, none⟩)] w (NextTo w B R A n c b tag r) := by
 have bytesTy : AppTy Tryz.prog 28 5 (.int .u8 0) 1 1 := AppTy.mk' Tryz.underlying28 (by kernel_rfl) rfl (by decide)
 obtain ⟨A', n', c', hr⟩ := h.rd
 obtain ⟨hln, hdr⟩ := h.tail rfl
 have hbl := h.bytes.len
 have htt := fun (x l : List UInt8) (ht : text 67108864 (some r) = (x, some l)) => tail_text hln hdr hbl ht
 obtain ⟨q, hq⟩ : ∃ q, q = (tag :: r).length := ⟨_, rfl⟩
 have hr1 : r.length + 1 = q := by rw [hq]; rfl
 rw [← hq] at hln hdr
 obtain ⟨m, hm⟩ : ∃ m, m = n - q := ⟨_, rfl⟩
 rw [← hm] at hdr
 have hmn : m < n := by omega
 have hgt : b[m]? = some tag := by
  have e : (b.drop m)[0]? = some tag := by rw [hdr]; rfl
  rwa [List.getElem?_drop, Nat.add_zero] at e
 have hd1 : b.drop (m + 1) = r := by
  rw [← List.drop_drop, hdr]
  rfl
 obtain ⟨bb, off, rfl, hbb, hcl⟩ := h.bytes.at_ (by omega)
 have hcb := hcl m tag hgt
 have hcR0 := h.cell.cell 0
 have hcR1 := h.cell.cell 1
 have hRl := h.cell.lt
 have hfR := h.cell.frozen 0
 have hnc := h.nc
 have hcm := h.cm
 unfold maxLen at hcm
 have hsm := h.small
 have hgl := hr.cell.lt
 have hbbl : bb < w.heap.size := by omega
 have hG0 : Grow w (w.alloc (.cells #[.int .u8 0, .slice none 0 0] 40)) := Grow.alloc _ _
 have HL := Lib.hid (show ∀ k, Calls Tryz.prog 51 #[.pointer (some ⟨g, 0, none⟩)] ((w.alloc (.cells #[.int .u8 0, .slice none 0 0] 40)).drewN k) fun e w' => e = .returned (.int .i64 (q : Int)) ∧ (w.alloc (.cells #[.int .u8 0, .slice none 0 0] 40)).drewN k = w' from fun k => by
  have h1 := RLeft_any ((w.alloc (.cells #[.int .u8 0, .slice none 0 0] 40)).drewN k) g A' n' c' (tag :: r) false (hr.grow (hG0.trans (Grow.drewN _ _)))
  rw [stOf_false] at h1
  rw [hq]
  exact h1)
 have hw : IntKind.i64.wrap ((n : Int) - (q : Int)) = (m : Int) := by
  rw [show (n : Int) - (q : Int) = (m : Int) by omega]
  exact IntWalk.i64_in _ (by omega)
 have Hm := Lib.hid hm
 have Hq := Lib.hid hq
 have Hr1 := Lib.hid hr1
 have Hd1 := Lib.hid hd1
 have Htt := Lib.hid htt
 have Hbl := Lib.hid hbl
 have Hcl := Lib.hid hcl
 have hcb0 := Lib.hid hcb
 clear hm hq hr1 hd1 htt hbl hdr hgt hcl
 go_enter Tryz.func142, Tryz.ntmps142
 go_wp2
 go_quiet ((go_at_call 51; exact quiet_left (HL.out _)))
 obtain ⟨W0, hW0⟩ : ∃ W0, (w.alloc (.cells #[.int .u8 0, .slice none 0 0] 40)).drewN nq = W0 := ⟨_, rfl⟩
 have hG1 : Grow w W0 := by rw [← hW0]; exact hG0.trans (Grow.drewN _ _)
 have hP0 : Blk W0 w.heap.size 40 #[.int .u8 0, .slice none 0 0] := by rw [← hW0]; exact Blk.new _ _ _
 rw [hW0]
 clear hcR0 hcR1 hcb hfR hW0
 have hcR0 : W0.cell? ⟨R, 0, none⟩ = _ := (h.cell.below hG1 hRl).cell 0
 have hcR1 : W0.cell? ⟨R, 1, none⟩ = _ := (h.cell.below hG1 hRl).cell 1
 have hcb : W0.cell? ⟨bb, off + m, none⟩ = some (.int .u8 (tag.toNat : Int)) := (Below.cell (p := ⟨bb, off + m, none⟩) hG1 hbbl).trans hcb0.out
 have hcP := hP0.cell 0
 have hfP := hP0.frozen 0
 have hcut := fun W => run_cut_tail bytesTy (some ⟨bb, off, none⟩) n c (m + 1) .i64 ((m : Int) + 1) (by omega) hmn W
 have hPR : w.heap.size ≠ R := by omega
 go_wp2_with fail
 have hz0 : W0.heap.size ≤ (W0.setCell ⟨w.heap.size, 0, none⟩ (.int .u8 (tag.toNat : Int))).heap.size := by rw [size_setCell]; exact Nat.le_refl _
 have hP1 : Blk (W0.setCell ⟨w.heap.size, 0, none⟩ (.int .u8 (tag.toNat : Int))) w.heap.size 40 #[.int .u8 (tag.toNat : Int), .slice none 0 0] := by
  have := hP0.set 0 (.int .u8 (tag.toNat : Int))
  simpa using this
 have hB1 : Below w.heap.size w (W0.setCell ⟨w.heap.size, 0, none⟩ (.int .u8 (tag.toNat : Int))) := Below.setCell hG1 (Nat.le_refl _) _
 have hR1 := h.cell.below hB1 hRl
 have hT1 : BytesAt (W0.setCell ⟨w.heap.size, 0, none⟩ (.int .u8 (tag.toNat : Int))) B (cutA (some ⟨bb, off, none⟩) c (m + 1) 1) (n - (m + 1)) r := by
  have h1 := (h.bytes.below (Below.mono hB1 hB)).tail (m + 1) hmn hnc
  rw [Hd1.out] at h1
  exact h1
 have hgz := hG1.size
 have hPl := hP0.lt
 refine (Read_any _ B _ _ _ r hT1 (by omega) (by omega)).mono ?_
 rintro e w1 ⟨g1, A1, c1, rfl, hg1, hd1, hG2⟩
 have hP2 := hP1.below hG2 hP1.lt
 have hR2 := hR1.below hG2 hR1.lt
 have hc2 := hR2.cell 0
 have hf2 := hR2.frozen 0
 have hg1R : g1 ≠ R := by omega
 have hPg : w.heap.size ≠ g1 := by omega
 have hk2 := Keep.setCell w1 ⟨R, 0, none⟩ (.pointer (some ⟨g1, 0, none⟩))
 have hd2 := hd1.kept hk2 hg1R (fun ad e hs => by
  obtain ⟨cs, q⟩ := hd1.ty ad e
  rw [show ad.block = R from hs] at q
  unfold Blk at hR2
  rw [hR2] at q
  cases q)
 have hR3 : Blk (w1.setCell ⟨R, 0, none⟩ (.pointer (some ⟨g1, 0, none⟩))) R 154 #[.pointer (some ⟨g1, 0, none⟩), .slice (some ⟨bb, off, none⟩) n c] := by
  have := hR2.set 0 (.pointer (some ⟨g1, 0, none⟩))
  simpa using this
 have hP3 := hP2.far (p := ⟨R, 0, none⟩) hPR (.pointer (some ⟨g1, 0, none⟩))
 have hkA : Keep (Own1 R) w (w1.setCell ⟨R, 0, none⟩ (.pointer (some ⟨g1, 0, none⟩))) := by
  exact Keep.trans (Keep.trans (Keep.grow (S := Own1 R) hB1) (Keep.grow (S := Own1 R) hG2) fun _ hj => Or.inl hj) hk2 fun _ hj => Or.inl hj
 have hr140 : r.length ≤ 140737488355328 := by have := Hr1.out; omega
 have HR3 := Lib.hid hR3
 have HkA := Lib.hid hkA
 clear hR3 hkA hR1 hR2 hT1 hd1
 go_wp2_with fail
 refine (RText_any _ g1 A1 _ c1 r false 67108864 hd2 hr140).mono ?_
 rintro e w2 ⟨v, Bv, rfl, hBv, hown, A2, n2, c2, l2, bad2, hd3, hs3, hl3, hk3⟩
 rw [stOf_false] at hown hs3
 obtain ⟨A5, c5, rfl, h51, h52, h53⟩ := own_reads hown
 have hP4 := hk3.blk hP3 hPg
 have hR4 := hk3.blk HR3.out (fun e => hg1R (Eq.symm e))
 have hcP0 := hP4.cell 0
 have hcP1 := hP4.cell 1
 have hfP1 := hP4.frozen 1
 have hfP0 := hP4.frozen 0
 have hz3 : w1.heap.size ≤ w2.heap.size := by have := hk3.size; rw [size_setCell] at this; exact this
 have Hown := Lib.hid hown
 have Hs3 := Lib.hid hs3
 have Hd3 := Lib.hid hd3
 have Hk3 := Lib.hid hk3
 have H53 := Lib.hid h53
 clear hown hs3 hd3 hk3 h53
 go_wp2_with fail
 have hP5 := ((hP4.set 1 (.slice A5 (text 67108864 (some r)).1.length c5)).set 0 (.int .u8 (tag.toNat : Int))).set 1 (.slice A5 (text 67108864 (some r)).1.length c5)
 have hkP := ((Keep.setCell w2 ⟨w.heap.size, 1, none⟩ (.slice A5 (text 67108864 (some r)).1.length c5)).trans' (Keep.setCell _ ⟨w.heap.size, 0, none⟩ (.int .u8 (tag.toNat : Int)))).trans' (Keep.setCell _ ⟨w.heap.size, 1, none⟩ (.slice A5 (text 67108864 (some r)).1.length c5))
 have hz1 : w.heap.size < w1.heap.size := by have := hG2.size; omega
 have hb2 : Below B w w2 := Below.trans (HkA.out.below (fun k hk => by rw [show k = R from hk]; exact h.base) hB) (Hk3.out.below (fun k hk => by rw [show k = g1 from hk]; omega) (by rw [size_setCell]; omega))
 have hF2 : FRd w2 B R (some ⟨bb, off, none⟩) n c b g1 l2 bad2 := ⟨hR4, ⟨_, _, _, Hd3.out⟩, h.bytes.below hb2, h.base, fun hb => Htt.out _ l2 (by
  have h1 := Hs3.out
  rw [hb, stOf_false] at h1
  exact Prod.ext rfl h1.symm), h.nc, h.cm, h.small⟩
 refine bodyPost_ret (results_cell_row rfl _ _ w.heap.size 40 _ (0, 0) _ rfl hP5 Tryz.underlying40 rfl (by kernel_rfl)) rfl ⟨g1, l2, bad2, _, Bv, rfl, hF2.kept hkP (fun k hk => ⟨by rw [show k = w.heap.size from hk]; exact hB, fun cs t ht => ?_⟩) (by omega), Hs3.out, ?_, hkP.own Hown.out fun k hk e => ?_, ?_⟩
 ·rw [show k = w.heap.size from hk, show w2.heap[w.heap.size]? = _ from hP4] at ht
  cases ht
  decide
 ·rw [size_setCell] at hBv
  omega
 ·have h1 := (Hown.out.lt k hk).1
  rw [size_setCell] at hBv
  rw [show k = w.heap.size from e] at h1
  omega
 ·exact (HkA.out.trans Hk3.out fun k hk => Or.inr (by rw [show k = g1 from hk]; omega)).trans hkP fun k hk => Or.inr (by rw [show k = w.heap.size from hk]; exact Nat.le_refl _)
end Go.Proofs.YtcimkoehcdfjdaaGreatDoor

namespace Go.Proofs.YtcimkoehcdfjdaaGreatDoor
open Go.RowKit Go.Shelf WireM
attribute [local go_sem] Oper.semAt_some

theorem fall_any (R : Nat) (w : World) : Calls Tryz.prog 94 #[.pointer (some ⟨R, 0, none⟩)] w fun e w' => e = .returned (.func (.func 141) #[] #[.pointer (some ⟨w.heap.size, 0, none⟩)]) ∧ w.alloc (.cells #[.pointer (some ⟨R, 0, none⟩)] 152) = w' := by
 go_enter Tryz.func94, Tryz.ntmps94
 go_wp2
 go_ret
 exact ⟨rfl, rfl⟩

def leftAt (R : Nat) (w : World) : Nat :=
 match w.cell? ⟨R, 0, none⟩ with
 | some (.pointer (some a)) => (match w.cell? ⟨a.block, 0, none⟩ with
  | some (.slice _ n _) => n
  | _ => 0)
 | _ => 0
theorem FRd.leftAt {w : World} {B R n c g : Nat} {A : Option Addr} {b l : List UInt8} {bad : Bool} (h : FRd w B R A n c b g l bad) : leftAt R w = l.length := by
 obtain ⟨A', n', c', hr⟩ := h.rd
 have h0 := h.cell.cell 0
 have h1 := hr.cell.cell 0
 simp at h0 h1
 simp [Proofs.YtcimkoehcdfjdaaGreatDoor.leftAt, h0, h1, hr.len]
def FallTo (J : List PartM → World → Prop) (JN : World → Prop) (l : List UInt8) (e : Ending) (w : World) : Prop := (∃ v, e = .returned v) ∧ match partsL l with
 | some ts => J ts w
 | none => JN w
theorem FallTo.yes {J : List PartM → World → Prop} {JN : World → Prop} {l : List UInt8} {v : Value} {w : World} {ts : List PartM} (h : partsL l = some ts) (hj : J ts w) : FallTo J JN l (.returned v) w := ⟨⟨_, rfl⟩, by rw [h]; exact hj⟩
theorem FallTo.no {J : List PartM → World → Prop} {JN : World → Prop} {l : List UInt8} {v : Value} {w : World} (h : partsL l = none) (hj : JN w) : FallTo J JN l (.returned v) w := ⟨⟨_, rfl⟩, by rw [h]; exact hj⟩

set_option maxRecDepth 100000 in
set_option maxHeartbeats 4000000 in
theorem fall1_any (m : Nat) (hm : 1 ≤ m) (lp Bx B R : Nat) (A : Option Addr) (n c : Nat) (b : List UInt8) (J : List PartM → World → Prop) (JN : World → Prop) (l0 : List UInt8)
  (hY : ∀ (ts : List PartM) (t : PartM) (v : Value) (Bv g : Nat) (r : List UInt8) (W0 W : World), ts.length < l0.length → J ts W0 → (∃ cs, Blk W0 R 154 cs) → Keep (Own1 R) W0 W → W0.heap.size ≤ Bv → FRd W B R A n c b g r false → Boxed W Bx 152 (.pointer (some ⟨R, 0, none⟩)) → W.ownsRow Bv 5 1 v t.b.length (t.b.map b8) →
   YieldAt Fence.wide (m - 1) Tryz.prog lp #[.agg #[.int .u8 (t.tag.toNat : Int), v], .bool true] W fun e W' => e = .returned (.bool true) ∧ J (ts ++ [t]) W' ∧ FRd W' B R A n c b g r false ∧ Boxed W' Bx 152 (.pointer (some ⟨R, 0, none⟩)))
  (hN : ∀ (ts : List PartM) (tag : UInt8) (v : Value) (Bv N : Nat) (xs : List Value) (W0 W : World), J ts W0 → (∃ cs, Blk W0 R 154 cs) → Keep (Own1 R) W0 W → W.ownsRow Bv 5 1 v N xs → Boxed W Bx 152 (.pointer (some ⟨R, 0, none⟩)) →
   YieldAt Fence.wide (m - 1) Tryz.prog lp #[.agg #[.int .u8 (tag.toNat : Int), v], .bool false] W fun e W' => e = .returned (.bool false) ∧ JN W')
  (W : World) (g0 : Nat) (hF : FRd W B R A n c b g0 l0 false) (hBx : Boxed W Bx 152 (.pointer (some ⟨R, 0, none⟩))) (h0 : J [] W) (hz : ∀ ts w, J ts w → B ≤ w.heap.size) :
  CallsIn Fence.wide m Tryz.prog 141 #[.func (.yield lp) #[] #[], .pointer (some ⟨Bx, 0, none⟩)] W (FallTo J JN l0) := by
 refine callsIn_of_wp Tryz.func141 rfl trivial ?_ rfl
 simp only [Tryz.ntmps141, List.size_toArray, List.length_cons, List.length_nil, Nat.reduceAdd, Nat.reduceSub, Array.replicate_succ, Array.replicate_zero, List.push_toArray, List.append_toArray, List.nil_append, List.cons_append]
 have HY := Lib.hid hY
 have HN := Lib.hid hN
 have Hz := Lib.hid hz
 clear hY hN hz
 gi_wp2
 gi_loopw [] (fun wr => ∃ (ts : List PartM) (g : Nat) (lr : List UInt8), ts.length + lr.length ≤ l0.length ∧ Hid (partsL l0 = (partsL lr).map (ts ++ ·)) ∧ FRd wr B R A n c b g lr false ∧ Boxed wr Bx 152 (.pointer (some ⟨R, 0, none⟩)) ∧ Hid (J ts wr)) (fun wr => leftAt R wr)
 case atStart => exact ⟨[], g0, l0, by simp, by show _ = _; cases partsL l0 <;> simp, hF, hBx, h0⟩
 case round =>
  obtain ⟨ts, g, lr, hle, hp, hf, hb, hj⟩ := hrel
  obtain ⟨A', n', c', hr⟩ := hf.rd
  have hcR := hf.cell.cell 0
  have hcb := hb.cell
  have hwz := Hz.out _ _ hj.out
  cases lr with
  | nil =>
   have hl0 : Calls Tryz.prog 51 #[.pointer (some ⟨g, 0, none⟩)] wr fun e w' => e = .returned (.int .i64 0) ∧ wr = w' := RLeft_any wr g A' n' c' [] false hr
   have Hl0 := Lib.hid hl0
   have Hfin := Lib.hid (show partsL l0 = some ts by rw [hp.out, partsL_nil]; simp)
   clear hl0
   gi_wp2_with (refine ⟨trivial, ?_⟩; gi_at_call 51; refine (callsIn_wide.2 Hl0.out).mono ?_; rintro e w' ⟨rfl, rfl⟩)
   go_end0
   exact FallTo.yes Hfin.out hj.out
  | cons tag r =>
   obtain ⟨q, hq⟩ : ∃ q, q = r.length + 1 := ⟨_, rfl⟩
   have hl1 : Calls Tryz.prog 51 #[.pointer (some ⟨g, 0, none⟩)] wr fun e w' => e = .returned (.int .i64 (q : Int)) ∧ wr = w' := by
    rw [hq]
    exact RLeft_any wr g A' n' c' (tag :: r) false hr
   have Hl1 := Lib.hid hl1
   have hq1 : 0 < q := by omega
   have Hnx := Lib.hid (fnext_any wr B R A n c b g tag r hf hwz)
   have Hm0 := Lib.hid hf.leftAt
   have hRl := hf.cell.lt
   have hBl := hb.lt
   have Hb := Lib.hid hb
   have HRn := Lib.hid (show Bx ≠ R from fun e => by
    have h1 := hf.cell
    have h2 := hb
    rw [e] at h2
    unfold Blk at h1
    unfold Boxed at h2
    rw [h2] at h1
    cases h1)
   have HfC := Lib.hid hf.cell
   clear hl1 hq hf hb
   gi_wp2_with (refine ⟨trivial, ?_⟩; gi_at_call 51; refine (callsIn_wide.2 Hl1.out).mono ?_; rintro e w' ⟨rfl, rfl⟩)
   refine ⟨trivial, ?_⟩
   gi_at_call 142
   refine (callsIn_wide.2 Hnx.out).mono ?_
   rintro e w1 ⟨g1, l1, bad1, v, Bv, rfl, hf1, hs1, hBv, hown, hk1⟩
   obtain ⟨A5, c5, rfl, h51, h52, h53⟩ := own_reads hown
   obtain ⟨T, hT⟩ : ∃ T, T = text 67108864 (some r) := ⟨_, rfl⟩
   rw [← hT] at hs1 hown
   have HT := Lib.hid hT
   have hTn : (text 67108864 (some r)).1.length = T.1.length := by rw [hT]
   rw [hTn]
   obtain ⟨x, st⟩ := T
   obtain rfl : stOf l1 bad1 = st := hs1
   have hG2 : Grow w1 (w1.alloc (.cells #[.int .u8 (tag.toNat : Int), .slice A5 x.length c5] 40)) := Grow.alloc _ _
   have hf2 := hf1.grow hG2 (by have := hk1.size; omega)
   have hown2 := own_below hown hG2
   have hb2 : Boxed (w1.alloc (.cells #[.int .u8 (tag.toNat : Int), .slice A5 x.length c5] 40)) Bx 152 (.pointer (some ⟨R, 0, none⟩)) := Blk.alloc (hk1.blk (show Blk wr Bx 152 #[.pointer (some ⟨R, 0, none⟩)] from Hb.out) HRn.out) _
   have hk2 := hk1.trans' (Keep.alloc w1 (.cells #[.int .u8 (tag.toNat : Int), .slice A5 x.length c5] 40))
   obtain ⟨A3, n3, c3, hr3⟩ := hf2.rd
   have hcR2 := hf2.cell.cell 0
   have hcB2 := hb2.cell
   have hok := ROK_any _ g1 A3 n3 c3 l1 bad1 hr3
   have hcP0 := (Blk.new w1 40 #[.int .u8 (tag.toNat : Int), .slice A5 x.length c5]).cell 0
   have hcP1 := (Blk.new w1 40 #[.int .u8 (tag.toNat : Int), .slice A5 x.length c5]).cell 1
   have hwz1 := hk1.size
   cases bad1 with
   | false =>
    have ht : text 67108864 (some r) = (x, some l1) := HT.out.symm
    have hlt := text_less ht
    obtain ⟨fn, tmps, assign, body, hy, hR⟩ := HY.out ts ⟨tag, x⟩ _ Bv g1 l1 wr _ (by simp only [List.length_cons] at hle; omega) hj.out ⟨_, HfC.out⟩ hk2 hBv hf2 hb2 hown2
    have Hok := Lib.hid hok
    have Hp2 := Lib.hid (show partsL l0 = (partsL l1).map ((ts ++ [⟨tag, x⟩]) ++ ·) by
     rw [hp.out, partsL_yes ht, Option.map_map]
     congr 1
     funext y
     simp)
    have Hf1 := Lib.hid hf1
    have Hf2 := Lib.hid hf2
    have Hlt := Lib.hid hlt
    clear hT HT hTn ht hok hown hown2 hf1 hf2 hb2 h53 hr3 hlt hk1 hk2
    gi_wp2_with (refine ⟨trivial, ?_⟩; gi_at_call 50; refine (callsIn_wide.2 Hok.out).mono ?_; rintro e w' ⟨rfl, rfl⟩)
    refine hR.mono ?_
    rintro e w3 ⟨rfl, hj3, hf3, hb3⟩
    have Hj3 := Lib.hid hj3
    clear hj3 hR
    gi_wp2
    go_roundw
    case rel => exact ⟨ts ++ [⟨tag, x⟩], g1, l1, by have := Hlt.out; simp only [List.length_cons] at hle; simp only [List.length_append, List.length_cons, List.length_nil]; omega, Hp2, hf3, hb3, Hj3⟩
    case measure =>
     rw [hf3.leftAt, Hm0.out]
     have h1 := Hlt.out
     simp only [List.length_cons]
     omega
   | true =>
    have ht : text 67108864 (some r) = (x, none) := HT.out.symm
    obtain ⟨fn, tmps, assign, body, hy, hR⟩ := HN.out ts tag _ Bv x.length _ wr _ hj.out ⟨_, HfC.out⟩ hk2 hown2 hb2
    have Hok := Lib.hid hok
    have Hp2 := Lib.hid (show partsL l0 = none by rw [hp.out, partsL_no ht]; rfl)
    clear hT HT hTn ht hok hown hown2 hf1 hf2 hb2 h53 hr3 hk1 hk2
    gi_wp2_with (refine ⟨trivial, ?_⟩; gi_at_call 50; refine (callsIn_wide.2 Hok.out).mono ?_; rintro e w' ⟨rfl, rfl⟩)
    refine hR.mono ?_
    rintro e w3 ⟨rfl, hj3⟩
    have Hj3 := Lib.hid hj3
    clear hj3 hR
    gi_wp2
    exact bodyPost_ret0 rfl rfl (FallTo.no Hp2.out Hj3.out)
end Go.Proofs.YtcimkoehcdfjdaaGreatDoor

namespace Go.Proofs.YtcimkoehcdfjdaaGreatDoor
open Go.RowKit WireM

structure KeepTy (B0 : Nat) (T : TypeId) (w w' : World) : Prop where
 os : w'.os = w.os
 tape : w'.tape = w.tape
 output : w'.output = w.output
 size : w.heap.size ≤ w'.heap.size
 block : ∀ k o, w.heap[k]? = some o → (k < B0 ∨ ∀ cs, o ≠ .cells cs T (0, 0)) → w'.heap[k]? = some o
section
variable {B0 : Nat} {T : TypeId} {w w1 w2 : World}
theorem KeepTy.refl (B0 : Nat) (T : TypeId) (w : World) : KeepTy B0 T w w := ⟨rfl, rfl, rfl, Nat.le_refl _, fun _ _ h _ => h⟩
theorem keepTy_trans : ∀ x y z, KeepTy B0 T x y → KeepTy B0 T y z → KeepTy B0 T x z := fun _ _ _ h k => ⟨k.os.trans h.os, k.tape.trans h.tape, k.output.trans h.output, Nat.le_trans h.size k.size, fun j o hj hp => k.block j o (h.block j o hj hp) hp⟩
theorem keepTy_grow : ∀ x y, Grow x y → KeepTy B0 T x y := fun _ _ h => ⟨h.os, h.tape, h.output, h.size, fun j _ hj _ => (h.block j (Array.getElem?_eq_some_iff.1 hj).1).trans hj⟩
theorem KeepTy.own1 {g : Nat} {cs : Array Value} (hk : Keep (Own1 g) w w1) (hb : Blk w g T cs) (hg : B0 ≤ g) : KeepTy B0 T w w1 := ⟨hk.os, hk.tape, hk.output, hk.size, fun j o hj hp => hk.obj hj fun e => by
 rw [show j = g from e] at hj hp
 unfold Blk at hb
 rw [hb] at hj
 cases hj
 rcases hp with h | h
 ·omega
 ·exact h cs rfl⟩
theorem KeepTy.below (h : KeepTy B0 T w w1) (hB : B0 ≤ w.heap.size) : Below B0 w w1 := ⟨h.os, h.tape, h.output, h.size, fun k hk => by
 have hl : k < w.heap.size := by omega
 rw [h.block k _ (Array.getElem?_eq_getElem hl) (Or.inl hk), Array.getElem?_eq_getElem hl]⟩
theorem KeepTy.low (h : KeepTy B0 T w w1) {m t : Nat} {cs : Array Value} (hb : Blk w m t cs) (hm : m < B0) : Blk w1 m t cs := h.block m _ hb (Or.inl hm)
theorem KeepTy.blk (h : KeepTy B0 T w w1) {m t : Nat} {cs : Array Value} (hb : Blk w m t cs) (ht : t ≠ T) : Blk w1 m t cs := h.block m _ hb (Or.inr fun cs e => by injection e with _ e; exact ht e)
end
theorem Grow.blkOf {w w1 : World} (hg : Grow w w1) {k t : Nat} {cs : Array Value} (h : Blk w k t cs) : Blk w1 k t cs := h.below hg h.lt
def FactOn.ty1 {B0 : Nat} {T : TypeId} (t : Nat) (ht : t ≠ T) (x : Value) : FactOn (KeepTy B0 T) :=
 ⟨fun u w => ∃ m, u = .slice (some ⟨m, 0, none⟩) 1 1 ∧ B0 ≤ m ∧ Blk w m t #[x], fun _ _ _ hk ⟨m, h1, h2, h3⟩ => ⟨m, h1, h2, hk.blk h3 ht⟩⟩
def RdNew (B0 : Nat) (l : List UInt8) (x : Value) (w : World) : Prop := ∃ g A n c, x = .pointer (some ⟨g, 0, none⟩) ∧ B0 ≤ g ∧ Rd w g A n c l false
theorem RdNew.grow {B0 : Nat} {l : List UInt8} {x : Value} {w w1 : World} (h : RdNew B0 l x w) (hg : Grow w w1) : RdNew B0 l x w1 := by
 obtain ⟨g, A, n, c, h1, h2, h3⟩ := h
 exact ⟨g, A, n, c, h1, h2, h3.grow hg⟩
def getW (B0 : Nat) (l1 l2 : List UInt8) (V1 V2 : Value) : List Value → World → Prop
 | [], _ => True
 | [x], w => RdNew B0 l1 x w
 | [_, y], _ => y = V1
 | [_, y, z], w => y = V1 ∧ RdNew B0 l2 z w
 | [_, y, _, u], _ => y = V1 ∧ u = V2
 | _, _ => False
theorem getW.grow {B0 : Nat} {l1 l2 : List UInt8} {V1 V2 : Value} : ∀ (vals : List Value) (w w1 : World), Grow w w1 → getW B0 l1 l2 V1 V2 vals w → getW B0 l1 l2 V1 V2 vals w1
 | [], _, _, _, h => h
 | [_], _, _, hg, h => RdNew.grow h hg
 | [_, _], _, _, _, h => h
 | [_, _, _], _, _, hg, h => ⟨h.1, h.2.grow hg⟩
 | [_, _, _, _], _, _, _, h => h
 | _ :: _ :: _ :: _ :: _ :: _, _, _, _, h => h.elim
theorem getW.v1 {B0 : Nat} {l1 l2 : List UInt8} {V1 V2 u : Value} : ∀ {vals : List Value} {w : World}, getW B0 l1 l2 V1 V2 vals w → vals[1]? = some u → u = V1
 | [], _, _, hu => by simp at hu
 | [_], _, _, hu => by simp at hu
 | [_, y], _, h, hu => by
  obtain rfl : y = u := by simpa using hu
  exact h
 | [_, y, _], _, h, hu => by
  obtain rfl : y = u := by simpa using hu
  exact h.1
 | [_, y, _, _], _, h, hu => by
  obtain rfl : y = u := by simpa using hu
  exact h.1
 | _ :: _ :: _ :: _ :: _ :: _, _, h, _ => h.elim
theorem getW.v2 {B0 : Nat} {l1 l2 : List UInt8} {V1 V2 u : Value} : ∀ {vals : List Value} {w : World}, getW B0 l1 l2 V1 V2 vals w → vals[3]? = some u → u = V2
 | [], _, _, hu => by simp at hu
 | [_], _, _, hu => by simp at hu
 | [_, _], _, _, hu => by simp at hu
 | [_, _, _], _, _, hu => by simp at hu
 | [_, _, _, y], _, h, hu => by
  obtain rfl : y = u := by simpa using hu
  exact h.2
 | _ :: _ :: _ :: _ :: _ :: _, _, h, _ => h.elim
theorem len3 {α : Type} {l : List α} (h : l.length = 3) : ∃ a b c, l = [a, b, c] := by
 match l, h with
 | [a, b, c], _ => exact ⟨a, b, c, rfl⟩
theorem len2 {α : Type} {l : List α} (h : l.length = 2) : ∃ a b, l = [a, b] := by
 match l, h with
 | [a, b], _ => exact ⟨a, b, rfl⟩

theorem Keep.rdNew {B0 : Nat} {l : List UInt8} {x : Value} {w w1 : World} (h : RdNew B0 l x w) (hk : Keep (fun _ => False) w w1) : RdNew B0 l x w1 := h.grow hk.toGrow
def FactOn.rd (B0 : Nat) (l : List UInt8) : FactOn (Keep (fun _ => False)) := ⟨fun u w => RdNew B0 l u w, fun _ _ _ hk h => Keep.rdNew h hk⟩
def FactOn.rdAgg (B0 : Nat) (l : List UInt8) (s : Value) : FactOn (Keep (fun _ => False)) := ⟨fun u w => ∃ p, u = .agg #[p, s] ∧ RdNew B0 l p w, fun _ _ _ hk ⟨p, h, h2⟩ => ⟨p, h, Keep.rdNew h2 hk⟩⟩
def FactOn.frNew (B0 : Nat) (l : List UInt8) (s : Value) : FactOn (Keep (fun _ => False)) :=
 ⟨fun u w => ∃ R g, u = .pointer (some ⟨R, 0, none⟩) ∧ B0 ≤ R ∧ Blk w R 154 #[.pointer (some ⟨g, 0, none⟩), s] ∧ ∃ A' n' c', Rd w g A' n' c' l false,
  fun _ _ _ hk ⟨R, g, h1, h2, h3, A', n', c', h4⟩ => ⟨R, g, h1, h2, Grow.blkOf hk.toGrow h3, A', n', c', h4.grow hk.toGrow⟩⟩
def partCs (ts : List PartM) (vs : List Value) : List Value := (ts.zip vs).flatMap fun p => [.int .u8 (p.1.tag.toNat : Int), p.2]
theorem partCs_snoc {ts : List PartM} {vs : List Value} (h : vs.length = ts.length) (t : PartM) (x : Value) : partCs (ts ++ [t]) (vs ++ [x]) = partCs ts vs ++ [.int .u8 (t.tag.toNat : Int), x] := by
 rw [partCs, List.zip_append h.symm, List.flatMap_append]
 rfl
structure PartsOwn (B : Nat) (w : World) (v : Value) (ts : List PartM) (vs : List Value) : Prop where
 len : vs.length = ts.length
 own : w.ownsRow B 40 2 v ts.length (partCs ts vs)
 each : ∀ (j : Nat) (x : Value) (t : PartM), vs[j]? = some x → ts[j]? = some t → w.ownsRow B 5 1 x t.b.length (t.b.map b8)
 dist : DistV vs
section
variable {B : Nat} {w w1 w2 : World} {v v' x : Value} {ts : List PartM} {vs : List Value} {t : PartM} {S : Nat → Prop}
theorem PartsOwn.nil (B : Nat) (w : World) : PartsOwn B w (.slice none 0 0) [] [] := ⟨rfl, World.ownsRow_nil _ _ _ _, fun j x t h => by simp at h, fun i j v v' b h => by simp at h⟩
theorem PartsOwn.lt (h : PartsOwn B w v ts vs) {j k : Nat} (hx : vs[j]? = some x) (hk : x.ownBlock = some k) : B ≤ k ∧ k < w.heap.size := by
 have hj := (List.getElem?_eq_some_iff.1 hx).1
 rw [h.len] at hj
 exact (h.each j x _ hx (List.getElem?_eq_getElem hj)).lt k hk
theorem PartsOwn.kept (h : PartsOwn B w v ts vs) (hk : Keep S w w1) (hS : ∀ k, S k → ∀ cs t, w.heap[k]? = some (.cells cs t (0, 0)) → t ≠ 40 ∧ t ≠ 5) : PartsOwn B w1 v ts vs :=
 ⟨h.len, hk.own h.own fun k hk2 hs => by
  obtain ⟨cur, hc⟩ := own_obj h.own hk2
  exact (hS k hs _ _ hc).1 rfl, fun j x t hx ht => hk.own (h.each j x t hx ht) fun k hk2 hs => by
  obtain ⟨cur, hc⟩ := own_obj (h.each j x t hx ht) hk2
  exact (hS k hs _ _ hc).2 rfl, h.dist⟩
theorem PartsOwn.grow (h : PartsOwn B w v ts vs) (hg : Grow w w1) : PartsOwn B w1 v ts vs := h.kept (S := fun _ => False) (Keep.grow hg) fun _ h => h.elim
theorem PartsOwn.snoc (h : PartsOwn B w v ts vs) {Bx : Nat} (hx : w.ownsRow Bx 5 1 x t.b.length (t.b.map b8)) (hB : B ≤ Bx) (hnew : ∀ (j : Nat) (y : Value) (k : Nat), vs[j]? = some y → y.ownBlock = some k → k < Bx)
  (hown : w2.ownsRow B 40 2 v' (ts.length + 1) (partCs ts vs ++ [.int .u8 (t.tag.toNat : Int), x])) (hg : w.grownBy w2 v.ownBlock) : PartsOwn B w2 v' (ts ++ [t]) (vs ++ [x]) := by
 have hk := Keep.grown hg
 have hv : ∀ k, v.ownBlock = some k → ∀ cs t, w.heap[k]? = some (.cells cs t (0, 0)) → t = 40 := fun k hk cs t ht => by
  obtain ⟨cur, hc⟩ := own_obj h.own hk
  rw [hc] at ht
  cases ht
  rfl
 have keep : ∀ (y : Value) (N BB : Nat) (ys : List Value), w.ownsRow BB 5 1 y N ys → w2.ownsRow BB 5 1 y N ys := fun y N BB ys hy => hk.own hy fun k hk2 hs => by
  obtain ⟨cur, hc⟩ := own_obj hy hk2
  exact absurd (hv k hs _ _ hc) (by decide)
 refine ⟨by simp [h.len], by rw [partCs_snoc h.len, List.length_append]; exact hown, fun j y u hy hu => ?_, fun i j y y' b hi hj hne hb hb' => ?_⟩
 ·by_cases hj : j < ts.length
  ·rw [List.getElem?_append_left (by rw [h.len]; exact hj)] at hy
   rw [List.getElem?_append_left hj] at hu
   exact keep y _ _ _ (h.each j y u hy hu)
  ·have hl := (List.getElem?_eq_some_iff.1 hu).1
   simp at hl
   obtain rfl : j = ts.length := by omega
   rw [List.getElem?_append_right (Nat.le_refl _)] at hu
   rw [List.getElem?_append_right (by rw [h.len]; exact Nat.le_refl _), h.len] at hy
   simp at hu hy
   subst hu hy
   exact own_base (keep _ _ _ _ hx) hB
 ·have at_ : ∀ (i : Nat) (y : Value), (vs ++ [x])[i]? = some y → (i < vs.length ∧ vs[i]? = some y) ∨ (i = vs.length ∧ y = x) := fun i y hi => by
   by_cases hl : i < vs.length
   ·rw [List.getElem?_append_left hl] at hi
    exact Or.inl ⟨hl, hi⟩
   ·have hl2 := (List.getElem?_eq_some_iff.1 hi).1
    simp at hl2
    obtain rfl : i = vs.length := by omega
    rw [List.getElem?_append_right (Nat.le_refl _)] at hi
    exact Or.inr ⟨rfl, by simpa using hi.symm⟩
  rcases at_ i y hi with ⟨h1, h2⟩ | ⟨h1, h2⟩
  ·rcases at_ j y' hj with ⟨h3, h4⟩ | ⟨h3, h4⟩
   ·exact h.dist i j y y' b h2 h4 hne hb hb'
   ·subst h4
    have h5 := hnew i y b h2 hb
    have h6 := (hx.lt b hb').1
    omega
  ·rcases at_ j y' hj with ⟨h3, h4⟩ | ⟨h3, h4⟩
   ·subst h2
    have h5 := hnew j y' b h4 hb'
    have h6 := (hx.lt b hb).1
    omega
   ·omega
theorem PartsOwn.reads (h : PartsOwn B w v ts vs) (hb : ∀ t ∈ ts, t.b.length ≤ 140737488351232) : ∃ A c, v = .slice A ts.length c ∧ ts.length ≤ c ∧ c ≤ maxLen ∧ PartsAt w w.heap.size A ts.length ts := by
 obtain ⟨A, c, rfl, h1, h2, h3⟩ := own_reads h.own
 refine ⟨A, c, rfl, h1, h2, rfl, fun hn => ?_⟩
 obtain ⟨b, off, e, hbl, hcl⟩ := h3.2 hn
 refine ⟨b, off, e, hbl, fun j t hj => ?_⟩
 have hjl := (List.getElem?_eq_some_iff.1 hj).1
 obtain ⟨x, hx⟩ : ∃ x, vs[j]? = some x := ⟨_, List.getElem?_eq_getElem (by rw [h.len]; exact hjl)⟩
 obtain ⟨A1, c1, e1, h4, h5, h6⟩ := own_reads (h.each j x t hx hj)
 have hcs : ∀ i u, [Value.int .u8 (t.tag.toNat : Int), x][i]? = some u → (partCs ts vs)[j * 2 + i]? = some u := fun i u hu => by
  have hz : (ts.zip vs)[j]? = some (t, x) := by rw [List.getElem?_zip_eq_some]; exact ⟨hj, hx⟩
  have : ∀ (l : List (PartM × Value)) (j : Nat) (p : PartM × Value), l[j]? = some p → ∀ i u, [Value.int .u8 (p.1.tag.toNat : Int), p.2][i]? = some u → (l.flatMap fun p => [Value.int .u8 (p.1.tag.toNat : Int), p.2])[j * 2 + i]? = some u := by
   intro l
   induction l with
   | nil => intro j p hp; simp at hp
   | cons q l ih =>
    intro j p hp i u hu
    cases j with
    | zero =>
     obtain rfl : q = p := by simpa using hp
     match i, hu with
     | 0, hu => simpa using hu
     | 1, hu => simpa using hu
    | succ j =>
     have := ih j p (by simpa using hp) i u hu
     rw [List.flatMap_cons, show (j + 1) * 2 + i = (j * 2 + i) + 2 by omega]
     simpa using this
  exact this _ j (t, x) hz i u hu
 refine ⟨[.int .u8 (t.tag.toNat : Int), x], rfl, ⟨A1, t.b.length, c1, by rw [e1], h4, h5, hb t (List.mem_of_getElem? hj), h6⟩, fun i u hu => ?_⟩
 ·have := hcl (j * 2 + i) u (hcs i u hu)
  rw [Nat.add_assoc]
  exact this
end
theorem ReadsAt.madeS (w : World) (t s : Nat) (cs : List Value) (h : cs.length = 1 * s) : ReadsAt (w.alloc (.cells cs.toArray t)) (w.heap.size + 1) s (some ⟨w.heap.size, 0, none⟩) 1 cs :=
 ⟨h, fun _ => ⟨w.heap.size, 0, rfl, by omega, fun j u hu => by
  rw [(Blk.new w t cs.toArray).cell, Nat.zero_add]
  simpa using hu⟩⟩
structure GetJ (w : World) (D lp : Nat) (rec : LoopState → Option Code → Loop) (ts : List PartM) (W : World) : Prop where
 loop : W.heap[lp]? = some (.loop (rec .ready none))
 defers : W.heap[D]? = some (.deferred (some []))
 out : ∃ v vs, Blk W w.heap.size 41 #[v] ∧ PartsOwn w.heap.size W v ts vs
 err : Blk W (w.heap.size + 1) 29 #[.int .i64 0]
 below : Below w.heap.size w W
structure GetN (w : World) (D lp : Nat) (rec : LoopState → Option Code → Loop) (W : World) : Prop where
 loop : W.heap[lp]? = some (.loop (rec .done (some (.exit 0))))
 defers : W.heap[D]? = some (.deferred (some []))
 out : ∃ v, Blk W w.heap.size 41 #[v]
 err : Blk W (w.heap.size + 1) 29 #[.int .i64 9]
 below : Below w.heap.size w W
theorem GetJ.kept {w W W1 : World} {D lp : Nat} {rec : LoopState → Option Code → Loop} {ts : List PartM} {S : Nat → Prop} (h : GetJ w D lp rec ts W) (hk : Keep S W W1)
  (hS : ∀ k, S k → w.heap.size ≤ k ∧ ∃ cs t, W.heap[k]? = some (.cells cs t (0, 0)) ∧ t ≠ 40 ∧ t ≠ 5 ∧ t ≠ 41 ∧ t ≠ 29) : GetJ w D lp rec ts W1 := by
 obtain ⟨v, vs, h1, h2⟩ := h.out
 have no : ∀ (k : Nat) (o : Obj), W.heap[k]? = some o → (∀ cs t, o = .cells cs t (0, 0) → t = 40 ∨ t = 5 ∨ t = 41 ∨ t = 29) → ¬ S k := fun k o hk2 ho hs => by
  obtain ⟨_, cs, t, q, q1, q2, q3, q4⟩ := hS k hs
  rw [hk2] at q
  injection q with q
  rcases ho cs t q with e | e | e | e
  ·exact q1 e
  ·exact q2 e
  ·exact q3 e
  ·exact q4 e
 refine ⟨hk.obj h.loop (no _ _ h.loop fun _ _ e => by cases e), hk.obj h.defers (no _ _ h.defers fun _ _ e => by cases e), ⟨v, vs, hk.blk h1 (no _ _ h1 fun _ _ e => by injection e with _ e; exact Or.inr (Or.inr (Or.inl e.symm))), h2.kept hk fun k hs cs t ht => ?_⟩, hk.blk h.err (no _ _ h.err fun _ _ e => by injection e with _ e; exact Or.inr (Or.inr (Or.inr e.symm))), Below.trans h.below (hk.below (fun k hs => (hS k hs).1) h.below.size)⟩
 obtain ⟨_, cs', t', q, q1, q2, _⟩ := hS k hs
 rw [ht] at q
 injection q with q
 injection q with _ q
 subst q
 exact ⟨q1, q2⟩
def endW (o e : Nat) (v : Value) (w0 : World) : List Value → World → Prop
 | [], w => Blk w o 41 #[v] ∧ Blk w e 29 #[.int .i64 9] ∧ Keep (fun j => j = o ∨ j = e) w0 w
 | [_], w => Blk w o 41 #[.slice none 0 0] ∧ Blk w e 29 #[.int .i64 9] ∧ Keep (fun j => j = o ∨ j = e) w0 w
 | [_, _], w => Blk w o 41 #[.slice none 0 0] ∧ Blk w e 29 #[.int .i64 9] ∧ Keep (fun j => j = o ∨ j = e) w0 w
 | _, _ => False
section
variable {o e : Nat} {v : Value} {w0 w : World}
theorem endW.grow : ∀ (vals : List Value) (w w2 : World), Grow w w2 → endW o e v w0 vals w → endW o e v w0 vals w2
 | [], _, _, hg, h => ⟨Grow.blkOf hg h.1, Grow.blkOf hg h.2.1, h.2.2.trans' (Keep.grow hg)⟩
 | [_], _, _, hg, h => ⟨Grow.blkOf hg h.1, Grow.blkOf hg h.2.1, h.2.2.trans' (Keep.grow hg)⟩
 | [_, _], _, _, hg, h => ⟨Grow.blkOf hg h.1, Grow.blkOf hg h.2.1, h.2.2.trans' (Keep.grow hg)⟩
 | _ :: _ :: _ :: _, _, _, _, h => h.elim
theorem endW.err : ∀ {vals : List Value}, endW o e v w0 vals w → Blk w e 29 #[.int .i64 9]
 | [], h => h.2.1
 | [_], h => h.2.1
 | [_, _], h => h.2.1
 | _ :: _ :: _ :: _, h => h.elim
theorem endW.nil (h : endW o e v w0 [] w) (ho : e ≠ o) (x : Value) : Keep (fun j => j = o ∨ j = e) w (w.setCell ⟨o, 0, none⟩ (.slice none 0 0)) ∧ endW o e v w0 [x] (w.setCell ⟨o, 0, none⟩ (.slice none 0 0)) := by
 have hk : Keep (fun j => j = o ∨ j = e) w (w.setCell ⟨o, 0, none⟩ (.slice none 0 0)) := (Keep.setCell w ⟨o, 0, none⟩ (.slice none 0 0)).mono fun j hj => Or.inl (Or.inl hj)
 exact ⟨hk, h.1.set 0 (.slice none 0 0), h.2.1.far ho _, h.2.2.trans' hk⟩
theorem endW.put {x : Value} (h : endW o e v w0 [x] w) (ho : o ≠ e) (y : Value) : Keep (fun j => j = o ∨ j = e) w (w.setCell ⟨e, 0, none⟩ (.int .i64 9)) ∧ endW o e v w0 [x, y] (w.setCell ⟨e, 0, none⟩ (.int .i64 9)) := by
 have hk : Keep (fun j => j = o ∨ j = e) w (w.setCell ⟨e, 0, none⟩ (.int .i64 9)) := (Keep.setCell w ⟨e, 0, none⟩ (.int .i64 9)).mono fun j hj => Or.inl (Or.inr hj)
 exact ⟨hk, h.1.far ho _, h.2.1.set 0 (.int .i64 9), h.2.2.trans' hk⟩
end
end Go.Proofs.YtcimkoehcdfjdaaGreatDoor

namespace Go.Proofs.YtcimkoehcdfjdaaGreatDoor
open Go.RowKit Go.Shelf WireM
attribute [local go_sem] Oper.semAt_some

theorem results_cells2 {P : Program} {fn : Func} {p q : Tmp} {t u : TypeId} (h : fn.results = #[.cell p t, .cell q u]) (tmps : Array Value) (w : World) (g g2 : Nat) (x y : Value)
  (hp : tmps.getD p undef = .pointer (some ⟨g, 0, none⟩)) (hq : tmps.getD q undef = .pointer (some ⟨g2, 0, none⟩)) (hx : (loadVar t ⟨g, 0, none⟩).run P w = .ok x w) (hy : (loadVar u ⟨g2, 0, none⟩).run P w = .ok y w) :
  (results fn tmps).run P w = .ok (.tuple #[x, y]) w := by
 have hp' : tmps[p]?.getD undef = .pointer (some ⟨g, 0, none⟩) := by simpa using hp
 have hq' : tmps[q]?.getD undef = .pointer (some ⟨g2, 0, none⟩) := by simpa using hq
 simp [results, h, hp', hq', asAddr, hx, hy, Sem.run_bind, Result.andThen]
theorem fixed_lt : ∀ st : St, (fixed st).1 < 4294967296
 | none => by simp [fixed]
 | some [] => by simp [fixed]
 | some [_] => by simp [fixed]
 | some [_, _] => by simp [fixed]
 | some [_, _, _] => by simp [fixed]
 | some (a :: b :: c :: d :: l) => by
  have ha := a.toNat_lt
  have hb := b.toNat_lt
  have hc := c.toNat_lt
  have hd := d.toNat_lt
  simp only [fixed]
  omega
def GetTo (w : World) (b : List UInt8) (e : Ending) (w' : World) : Prop :=
 (∃ ts v vs, getB b = some ts ∧ e = .returned (.tuple #[v, .int .i64 0]) ∧ PartsOwn w.heap.size w' v ts vs ∧ Grow w w') ∨ (getB b = none ∧ e = .returned (.tuple #[.slice none 0 0, .int .i64 9]) ∧ Grow w w')

set_option maxRecDepth 100000 in
set_option maxHeartbeats 4000000 in
theorem Get_any (w : World) (B : Nat) (A : Option Addr) (n c : Nat) (b : List UInt8) (hR : BytesAt w B A n b) (hB : B ≤ w.heap.size) (hnc : n ≤ c) (hc : c ≤ maxLen) (hn : n ≤ 67108864) :
  Calls Tryz.prog 45 #[.slice A n c] w (GetTo w b) := by
 have bytesTy : AppTy Tryz.prog 28 5 (.int .u8 0) 1 1 := AppTy.mk' Tryz.underlying28 (by kernel_rfl) rfl (by decide)
 refine (callsIn_wide (n := 4)).1 ?_
 refine callsIn_of_wp_marks Tryz.func45 rfl trivial ?_ rfl
 simp only [Tryz.ntmps45, List.size_toArray, List.length_cons, List.length_nil, Nat.reduceSub, Nat.reduceAdd, Array.replicate_succ, Array.replicate_zero, List.push_toArray, List.append_toArray, List.nil_append, List.cons_append]
 gi_wp2
 refine wpIn_wide.2 (wp_scope_straight ((wpIn_wide (n := 4)).1 ?_))
 gi_wp2
 obtain ⟨W0, hW0⟩ : ∃ W0, (w.alloc (.cells #[.slice none 0 0] 41)).alloc (.cells #[.int .i64 0] 29) = W0 := ⟨_, rfl⟩
 have hG0 : Grow w W0 := by rw [← hW0]; exact (Grow.alloc _ _).trans (Grow.alloc _ _)
 have hbO : Blk W0 w.heap.size 41 #[.slice none 0 0] := by rw [← hW0]; exact (Blk.new _ _ _).alloc _
 have hbE : Blk W0 (w.heap.size + 1) 29 #[.int .i64 0] := by
  rw [← hW0]
  have := Blk.new (w.alloc (.cells #[.slice none 0 0] 41)) 29 #[.int .i64 0]
  simpa using this
 rw [hW0]
 have hzE := hbE.lt
 have hlen := hR.len
 clear hW0
 by_cases h8 : n < 8
 ·have hgb : getB b = none := by
   rw [getB, if_neg]
   intro h
   have := h.1
   omega
  have d1 : decide ((n : Int) < 8) = true := decide_eq_true (by omega)
  refine wpIn_wide.2 (wp_region_stages (by kernel_rfl) ?_)
  refine anyOrder_start [] (Keep (fun _ => False)) (fun _ _ => True) (FactsOn [.is (.int .i64 (n : Int)), .is (.bool true), .is (.bool true), .is (undef), .is (undef), .is (.bool true), .is (.bool true), .is (undef), .is (undef), .is (undef), .is (undef), .is (undef), .is (undef), .is (.bool true), .is (.bool true), .is (undef), .is (undef), .is (undef), .is (undef), .is (undef), .is (undef), .is (undef), .is (undef), .is (undef), .is (undef), .is (undef), .is (undef), .is (undef), .is (.bool true)]) (fun i => 99) keep_trans keep_grow (fun _ _ _ _ h => h) (factsOn_mono _) (by kernel_rfl) (by kernel_rfl) trivial ?_ ?_
  ·refine ⟨?_, ?_, ?_, ?_, ?_, ?_, ?_, ?_, ?_, ?_, ?_, ?_, ?_, ?_, ?_, ?_, ?_, ?_, ?_, ?_, ?_, ?_, ?_, ?_, ?_, ?_, ?_, ?_, ?_, trivial⟩
   ·refine sF rfl rfl ?_
    intro us vals w3 a' ha hle hW hd hv K hK
    have q4 : a'.tmps[4]? = some (.int .i64 (n : Int)) := by rw [ha.out]; kernel_rfl
    exact sV hK rfl
   ·refine sF rfl rfl ?_
    intro us vals w3 a' ha hle hW hd hv K hK
    obtain ⟨d0, _⟩ := hd
    have q10 : a'.tmps[10]? = some (us 0) := by rw [ha.out]; kernel_rfl
    rw [show us 0 = .int .i64 (n : Int) from d0] at q10
    exact sV (v := .bool true) hK rfl
   ·refine sF rfl rfl ?_
    intro us vals w3 a' ha hle hW hd hv K hK
    obtain ⟨d1, _⟩ := hd
    have q11 : a'.tmps[11]? = some (us 1) := by rw [ha.out]; kernel_rfl
    rw [show us 1 = .bool true from d1] at q11
    exact sV hK rfl
   ·refine stageOf_skip rfl (fun us vals w3 a' ha hd => ?_) (fun _ => rfl)
    obtain ⟨d2, _⟩ := hd
    have q : a'.tmps[12]? = some (us 2) := by rw [ha.out]; kernel_rfl
    rw [show us 2 = .bool true from d2] at q
    exact wanted_other rfl rfl q
   ·refine stageOf_skip rfl (fun us vals w3 a' ha hd => ?_) (fun _ => rfl)
    obtain ⟨_, d2, _⟩ := hd
    have q : a'.tmps[12]? = some (us 2) := by rw [ha.out]; kernel_rfl
    rw [show us 2 = .bool true from d2] at q
    exact wanted_other rfl rfl q
   ·refine sF rfl rfl ?_
    intro us vals w3 a' ha hle hW hd hv K hK
    obtain ⟨d2, d4, _⟩ := hd
    have q12 : a'.tmps[12]? = some (us 2) := by rw [ha.out]; kernel_rfl
    rw [show us 2 = .bool true from d2] at q12
    have q14 : a'.tmps[14]? = some (us 4) := by rw [ha.out]; kernel_rfl
    rw [show us 4 = undef from d4] at q14
    exact sV (v := .bool true) hK rfl
   ·refine sF rfl rfl ?_
    intro us vals w3 a' ha hle hW hd hv K hK
    obtain ⟨d5, _, _⟩ := hd
    have q15 : a'.tmps[15]? = some (us 5) := by rw [ha.out]; kernel_rfl
    rw [show us 5 = .bool true from d5] at q15
    exact sV hK rfl
   ·refine stageOf_skip rfl (fun us vals w3 a' ha hd => ?_) (fun _ => rfl)
    obtain ⟨d6, _⟩ := hd
    have q : a'.tmps[16]? = some (us 6) := by rw [ha.out]; kernel_rfl
    rw [show us 6 = .bool true from d6] at q
    exact wanted_other rfl rfl q
   ·refine stageOf_skip rfl (fun us vals w3 a' ha hd => ?_) (fun _ => rfl)
    obtain ⟨_, d6, _, _⟩ := hd
    have q : a'.tmps[16]? = some (us 6) := by rw [ha.out]; kernel_rfl
    rw [show us 6 = .bool true from d6] at q
    exact wanted_other rfl rfl q
   ·refine stageOf_skip rfl (fun us vals w3 a' ha hd => ?_) (fun _ => rfl)
    obtain ⟨_, _, d6, _⟩ := hd
    have q : a'.tmps[16]? = some (us 6) := by rw [ha.out]; kernel_rfl
    rw [show us 6 = .bool true from d6] at q
    exact wanted_other rfl rfl q
   ·refine stageOf_skip rfl (fun us vals w3 a' ha hd => ?_) (fun _ => rfl)
    obtain ⟨_, d6, _⟩ := hd
    have q : a'.tmps[16]? = some (us 6) := by rw [ha.out]; kernel_rfl
    rw [show us 6 = .bool true from d6] at q
    exact wanted_other rfl rfl q
   ·refine stageOf_skip rfl (fun us vals w3 a' ha hd => ?_) (fun _ => rfl)
    obtain ⟨d6, _⟩ := hd
    have q : a'.tmps[16]? = some (us 6) := by rw [ha.out]; kernel_rfl
    rw [show us 6 = .bool true from d6] at q
    exact wanted_other rfl rfl q
   ·refine stageOf_skip rfl (fun us vals w3 a' ha hd => ?_) (fun _ => rfl)
    obtain ⟨_, _, d6, _⟩ := hd
    have q : a'.tmps[16]? = some (us 6) := by rw [ha.out]; kernel_rfl
    rw [show us 6 = .bool true from d6] at q
    exact wanted_other rfl rfl q
   ·refine sF rfl rfl ?_
    intro us vals w3 a' ha hle hW hd hv K hK
    obtain ⟨d6, d12, _⟩ := hd
    have q16 : a'.tmps[16]? = some (us 6) := by rw [ha.out]; kernel_rfl
    rw [show us 6 = .bool true from d6] at q16
    have q22 : a'.tmps[22]? = some (us 12) := by rw [ha.out]; kernel_rfl
    rw [show us 12 = undef from d12] at q22
    exact sV (v := .bool true) hK rfl
   ·refine sF rfl rfl ?_
    intro us vals w3 a' ha hle hW hd hv K hK
    obtain ⟨d13, _, _⟩ := hd
    have q23 : a'.tmps[23]? = some (us 13) := by rw [ha.out]; kernel_rfl
    rw [show us 13 = .bool true from d13] at q23
    exact sV hK rfl
   ·refine stageOf_skip rfl (fun us vals w3 a' ha hd => ?_) (fun _ => rfl)
    obtain ⟨d14, _⟩ := hd
    have q : a'.tmps[24]? = some (us 14) := by rw [ha.out]; kernel_rfl
    rw [show us 14 = .bool true from d14] at q
    exact wanted_other rfl rfl q
   ·refine stageOf_skip rfl (fun us vals w3 a' ha hd => ?_) (fun _ => rfl)
    obtain ⟨d14, _⟩ := hd
    have q : a'.tmps[24]? = some (us 14) := by rw [ha.out]; kernel_rfl
    rw [show us 14 = .bool true from d14] at q
    exact wanted_other rfl rfl q
   ·refine stageOf_skip rfl (fun us vals w3 a' ha hd => ?_) (fun _ => rfl)
    obtain ⟨_, d14, _⟩ := hd
    have q : a'.tmps[24]? = some (us 14) := by rw [ha.out]; kernel_rfl
    rw [show us 14 = .bool true from d14] at q
    exact wanted_other rfl rfl q
   ·refine stageOf_skip rfl (fun us vals w3 a' ha hd => ?_) (fun _ => rfl)
    obtain ⟨_, _, d14, _⟩ := hd
    have q : a'.tmps[24]? = some (us 14) := by rw [ha.out]; kernel_rfl
    rw [show us 14 = .bool true from d14] at q
    exact wanted_other rfl rfl q
   ·refine stageOf_skip rfl (fun us vals w3 a' ha hd => ?_) (fun _ => rfl)
    obtain ⟨_, d14, _, _⟩ := hd
    have q : a'.tmps[24]? = some (us 14) := by rw [ha.out]; kernel_rfl
    rw [show us 14 = .bool true from d14] at q
    exact wanted_other rfl rfl q
   ·refine stageOf_skip rfl (fun us vals w3 a' ha hd => ?_) (fun _ => rfl)
    obtain ⟨_, _, d14, _⟩ := hd
    have q : a'.tmps[24]? = some (us 14) := by rw [ha.out]; kernel_rfl
    rw [show us 14 = .bool true from d14] at q
    exact wanted_other rfl rfl q
   ·refine stageOf_skip rfl (fun us vals w3 a' ha hd => ?_) (fun _ => rfl)
    obtain ⟨d14, _⟩ := hd
    have q : a'.tmps[24]? = some (us 14) := by rw [ha.out]; kernel_rfl
    rw [show us 14 = .bool true from d14] at q
    exact wanted_other rfl rfl q
   ·refine stageOf_skip rfl (fun us vals w3 a' ha hd => ?_) (fun _ => rfl)
    obtain ⟨d14, _⟩ := hd
    have q : a'.tmps[24]? = some (us 14) := by rw [ha.out]; kernel_rfl
    rw [show us 14 = .bool true from d14] at q
    exact wanted_other rfl rfl q
   ·refine stageOf_skip rfl (fun us vals w3 a' ha hd => ?_) (fun _ => rfl)
    obtain ⟨_, d14, _⟩ := hd
    have q : a'.tmps[24]? = some (us 14) := by rw [ha.out]; kernel_rfl
    rw [show us 14 = .bool true from d14] at q
    exact wanted_other rfl rfl q
   ·refine stageOf_skip rfl (fun us vals w3 a' ha hd => ?_) (fun _ => rfl)
    obtain ⟨_, _, d14, _⟩ := hd
    have q : a'.tmps[24]? = some (us 14) := by rw [ha.out]; kernel_rfl
    rw [show us 14 = .bool true from d14] at q
    exact wanted_other rfl rfl q
   ·refine stageOf_skip rfl (fun us vals w3 a' ha hd => ?_) (fun _ => rfl)
    obtain ⟨_, d14, _⟩ := hd
    have q : a'.tmps[24]? = some (us 14) := by rw [ha.out]; kernel_rfl
    rw [show us 14 = .bool true from d14] at q
    exact wanted_other rfl rfl q
   ·refine stageOf_skip rfl (fun us vals w3 a' ha hd => ?_) (fun _ => rfl)
    obtain ⟨_, _, d14, _⟩ := hd
    have q : a'.tmps[24]? = some (us 14) := by rw [ha.out]; kernel_rfl
    rw [show us 14 = .bool true from d14] at q
    exact wanted_other rfl rfl q
   ·refine stageOf_skip rfl (fun us vals w3 a' ha hd => ?_) (fun _ => rfl)
    obtain ⟨_, _, d14, _⟩ := hd
    have q : a'.tmps[24]? = some (us 14) := by rw [ha.out]; kernel_rfl
    rw [show us 14 = .bool true from d14] at q
    exact wanted_other rfl rfl q
   ·refine sF rfl rfl ?_
    intro us vals w3 a' ha hle hW hd hv K hK
    obtain ⟨d14, d27, _⟩ := hd
    have q24 : a'.tmps[24]? = some (us 14) := by rw [ha.out]; kernel_rfl
    rw [show us 14 = .bool true from d14] at q24
    have q37 : a'.tmps[37]? = some (us 27) := by rw [ha.out]; kernel_rfl
    rw [show us 27 = undef from d27] at q37
    exact sV (v := .bool true) hK rfl
  ·intro us vals w3 hle hvl _ _ hf
   have h28 : us 28 = .bool true := hf 28 (by decide) rfl
   generalize ha2 : fills _ _ _ _ = a2
   obtain rfl : a2 = { tmps := #[.slice A n c, undef, .pointer (some ⟨w.heap.size, 0, none⟩), .pointer (some ⟨w.heap.size + 1, 0, none⟩), .int .i64 (n : Int), undef, undef, undef, .slice A n c, .int .i64 (n : Int), us 0, us 1, us 2, us 3, us 4, us 5, us 6, us 7, us 8, us 9, us 10, us 11, us 12, us 13, us 14, us 15, us 16, us 17, us 18, us 19, us 20, us 21, us 22, us 23, us 24, us 25, us 26, us 27, us 28, undef, undef, undef, undef, undef, undef, undef, undef, undef, undef, undef, undef, undef, undef, undef, undef, undef, undef, undef, undef, undef, undef, undef, undef, undef], defers := [] } := by rw [← ha2]; kernel_rfl
   clear ha2
   rw [h28]
   have hO3 := Grow.blkOf hle.toGrow hbO
   have hE3 := Grow.blkOf hle.toGrow hbE
   have hcO := hO3.cell 0
   have hcE := hE3.cell 0
   have hfO := hO3.frozen 0
   have hfE := hE3.frozen 0
   have hGw : Below w.heap.size w w3 := Grow.trans hG0 hle.toGrow
   gi_wp2
   (try rw [Exit.noGoto_ret])
   have hO4 : Blk ((w3.setCell ⟨w.heap.size, 0, none⟩ (.slice none 0 0)).setCell ⟨w.heap.size + 1, 0, none⟩ (.int .i64 9)) w.heap.size 41 #[.slice none 0 0] := (hO3.set 0 (.slice none 0 0)).far (by simp) _
   have hE4 : Blk ((w3.setCell ⟨w.heap.size, 0, none⟩ (.slice none 0 0)).setCell ⟨w.heap.size + 1, 0, none⟩ (.int .i64 9)) (w.heap.size + 1) 29 #[.int .i64 9] := (hE3.far (p := ⟨w.heap.size, 0, none⟩) (by simp) (.slice none 0 0)).set 0 (.int .i64 9)
   have hc1 := hO4.cell 0
   have hc2 := hE4.cell 0
   exact ⟨_, results_cells2 rfl _ _ w.heap.size (w.heap.size + 1) (.slice none 0 0) (.int .i64 9) rfl rfl (by go_simp) (by go_simp), Or.inr ⟨hgb, rfl, Below.setCell (Below.setCell hGw (Nat.le_refl _) _) (Nat.le_succ _) _⟩⟩
 ·have d1 : decide ((n : Int) < 8) = false := decide_eq_false (by omega)
  have dm : decide ((67108864 : Int) < (n : Int)) = false := decide_eq_false (by omega)
  have hBz : B ≤ W0.heap.size := Nat.le_trans hB hG0.size
  have hbK : ∀ W, KeepTy W0.heap.size 161 W0 W → BytesAt W B A n b := fun W h => (hR.below (Below.mono hG0 hB)).below (Below.mono (h.below (Nat.le_refl _)) hBz)
  obtain ⟨S1, hS1⟩ : ∃ S1, S1 = (fixed (some b)).1 := ⟨_, rfl⟩
  obtain ⟨S2, hS2⟩ : ∃ S2, S2 = (fixed (some (b.drop (n - 4)))).1 := ⟨_, rfl⟩
  obtain ⟨S3, hS3⟩ : ∃ S3, S3 = (CrcM.sum (b.take (n - 4))).toNat := ⟨_, rfl⟩
  have hS1b : S1 < 4294967296 := by rw [hS1]; exact fixed_lt _
  have hS2b : S2 < 4294967296 := by rw [hS2]; exact fixed_lt _
  have hS3b : S3 < 4294967296 := by rw [hS3]; exact (CrcM.sum _).isLt
  have HS1 := Lib.hid hS1
  have HS2 := Lib.hid hS2
  have HS3 := Lib.hid hS3
  have hwS : IntKind.i64.wrap (S1 : Int) = (S1 : Int) := IntWalk.i64_in _ (by omega)
  have hw4 : IntKind.i64.wrap ((n : Int) - 4) = (n : Int) - 4 := IntWalk.i64_in _ (by omega)
  have Hlen := Lib.hid hlen
  clear hS1 hS2 hS3 hlen
  by_cases hs1 : S1 = n
  ·obtain ⟨x, hx⟩ : ∃ x, ((S2 : Int) != (S3 : Int)) = x := ⟨_, rfl⟩
   have hgb : getB b = if x then none else partsL ((b.take (n - 4)).drop 4) := by
    have h1 : sumOk b ↔ x = false := by
     unfold sumOk
     rw [Hlen.out, ← HS1.out, ← HS2.out, ← HS3.out, ← hx, bne_eq_false_iff_eq]
     omega
    rw [getB, Hlen.out]
    cases x with
    | true => rw [if_neg (by rw [h1]; simp)]; rfl
    | false => rw [if_pos (by rw [h1])]; rfl
   have d2 : ((S1 : Int) != (n : Int)) = false := by rw [hs1]; simp
   have Hgb := Lib.hid hgb
   have Hs1 := Lib.hid hs1
   clear hgb hs1
   refine wpIn_wide.2 (wp_region_stages (by kernel_rfl) ?_)
   refine anyOrder_start [8, 9, 19, 20] (KeepTy W0.heap.size 161) (getW W0.heap.size b (b.drop (n - 4)) (.int .u32 (S1 : Int)) (.int .u32 (S2 : Int))) (FactsOn [.is (.int .i64 (n : Int)), .is (.bool false), .is (.bool false), .is (.int .i64 (n : Int)), .is (.bool false), .is (.bool false), .is (.bool false), .is (.slice A n c), .any, .any, .is (.int .i64 (S1 : Int)), .is (.int .i64 (n : Int)), .is (.bool false), .is (.bool false), .is (.bool false), .is (.slice A n c), .is (.int .i64 (n : Int)), .is (.int .i64 ((n : Int) - 4)), .is (.slice (cutA A c (n - 4) 1) (n - (n - 4)) (c - (n - 4))), .any, .any, .is (.slice A n c), .is (.int .i64 (n : Int)), .is (.int .i64 ((n : Int) - 4)), .is (.slice A (n - 4) c), .ty1 28 (by decide) (.slice A (n - 4) c), .is (.int .u32 (S3 : Int)), .is (.bool x), .is (.bool x)]) (fun i => 99) keepTy_trans keepTy_grow (getW.grow) (factsOn_mono _) (by kernel_rfl) (by kernel_rfl) trivial ?_ ?_
   ·refine ⟨?_, ?_, ?_, ?_, ?_, ?_, ?_, ?_, ?_, ?_, ?_, ?_, ?_, ?_, ?_, ?_, ?_, ?_, ?_, ?_, ?_, ?_, ?_, ?_, ?_, ?_, ?_, ?_, ?_, trivial⟩
    ·refine sF rfl rfl ?_
     intro us vals w3 a' ha hle hW hd hv K hK
     have q4 : a'.tmps[4]? = some (.int .i64 (n : Int)) := by rw [ha.out]; kernel_rfl
     exact sV hK rfl
    ·refine sF rfl rfl ?_
     intro us vals w3 a' ha hle hW hd hv K hK
     obtain ⟨d0, _⟩ := hd
     have q10 : a'.tmps[10]? = some (us 0) := by rw [ha.out]; kernel_rfl
     rw [show us 0 = .int .i64 (n : Int) from d0] at q10
     exact sV (v := .bool false) hK rfl
    ·refine sF rfl rfl ?_
     intro us vals w3 a' ha hle hW hd hv K hK
     obtain ⟨d1, _⟩ := hd
     have q11 : a'.tmps[11]? = some (us 1) := by rw [ha.out]; kernel_rfl
     rw [show us 1 = .bool false from d1] at q11
     exact sV hK rfl
    ·refine stageOf_free rfl (fun us vals w3 a' ha hd => ?_) ?_
     ·obtain ⟨d2, _⟩ := hd
      have q : a'.tmps[12]? = some (us 2) := by rw [ha.out]; kernel_rfl
      rw [show us 2 = .bool false from d2] at q
      exact wanted_some rfl rfl q
     intro us vals w3 a' ha hle hW hd hv K hK
     have q4 : a'.tmps[4]? = some (.int .i64 (n : Int)) := by rw [ha.out]; kernel_rfl
     exact sV hK rfl
    ·refine stageOf_free rfl (fun us vals w3 a' ha hd => ?_) ?_
     ·obtain ⟨_, d2, _⟩ := hd
      have q : a'.tmps[12]? = some (us 2) := by rw [ha.out]; kernel_rfl
      rw [show us 2 = .bool false from d2] at q
      exact wanted_some rfl rfl q
     intro us vals w3 a' ha hle hW hd hv K hK
     obtain ⟨d3, _, _⟩ := hd
     have q13 : a'.tmps[13]? = some (us 3) := by rw [ha.out]; kernel_rfl
     rw [show us 3 = .int .i64 (n : Int) from d3] at q13
     exact sV (v := .bool false) hK rfl
    ·refine sF rfl rfl ?_
     intro us vals w3 a' ha hle hW hd hv K hK
     obtain ⟨d2, d4, _⟩ := hd
     have q12 : a'.tmps[12]? = some (us 2) := by rw [ha.out]; kernel_rfl
     rw [show us 2 = .bool false from d2] at q12
     have q14 : a'.tmps[14]? = some (us 4) := by rw [ha.out]; kernel_rfl
     rw [show us 4 = .bool false from d4] at q14
     exact sV (v := .bool false) hK rfl
    ·refine sF rfl rfl ?_
     intro us vals w3 a' ha hle hW hd hv K hK
     obtain ⟨d5, _, _⟩ := hd
     have q15 : a'.tmps[15]? = some (us 5) := by rw [ha.out]; kernel_rfl
     rw [show us 5 = .bool false from d5] at q15
     exact sV hK rfl
    ·refine stageOf_free rfl (fun us vals w3 a' ha hd => ?_) ?_
     ·obtain ⟨d6, _⟩ := hd
      have q : a'.tmps[16]? = some (us 6) := by rw [ha.out]; kernel_rfl
      rw [show us 6 = .bool false from d6] at q
      exact wanted_some rfl rfl q
     intro us vals w3 a' ha hle hW hd hv K hK
     have q0 : a'.tmps[0]? = some (.slice A n c) := by rw [ha.out]; kernel_rfl
     exact sV hK rfl
    ·refine stageOf_mem (t := 0) rfl ?_
     intro us vals w3 a' ha hle hW hd hv
     obtain ⟨d7, d6, _, _⟩ := hd
     obtain rfl := List.eq_nil_of_length_eq_zero (Nat.le_zero.1 (show vals.length ≤ 0 from Nat.le_of_eq hv))
     have qg : a'.tmps[16]? = some (us 6) := by rw [ha.out]; kernel_rfl
     rw [show us 6 = .bool false from d6] at qg
     refine ⟨wanted_some rfl rfl qg, fun K hK => ?_⟩
     have q17 : a'.tmps[17]? = some (us 7) := by rw [ha.out]; kernel_rfl
     rw [show us 7 = .slice A n c from d7] at q17
     refine step_call (f := 47) (args := #[.slice A n c]) (by go_simp) ?_
     refine (Read_any w3 B A n c b (hbK w3 hle) (Nat.le_trans hBz hle.size) (by omega)).mono ?_
     rintro e w4 ⟨g, A2, c2, rfl, hg, hd5, hG⟩
     exact ⟨_, rfl, hK _ _ (keepTy_grow _ _ hG) ⟨g, A2, n, c2, rfl, Nat.le_trans hle.size hg, hd5⟩⟩
    ·refine stageOf_mem (t := 1) rfl ?_
     intro us vals w3 a' ha hle hW hd hv
     obtain ⟨d8, _, d6, _⟩ := hd
     obtain ⟨x0, rfl⟩ := List.length_eq_one_iff.1 hv
     obtain rfl : us 8 = x0 := by have h0 : some x0 = some (us 8) := d8; injection h0 with h0; exact h0.symm
     have qg : a'.tmps[16]? = some (us 6) := by rw [ha.out]; kernel_rfl
     rw [show us 6 = .bool false from d6] at qg
     refine ⟨wanted_some rfl rfl qg, fun K hK => ?_⟩
     have q18 : a'.tmps[18]? = some (us 8) := by rw [ha.out]; kernel_rfl
     obtain ⟨g, A2, n2, c2, e8, hg, hd5⟩ := hW
     rw [e8] at q18
     refine step_call (f := 93) (args := #[.pointer (some ⟨g, 0, none⟩)]) (by go_simp) ?_
     have hn := RFixed_any w3 g A2 n2 c2 b false hd5
     rw [stOf_false, ← HS1.out] at hn
     refine hn.mono ?_
     rintro e w4 ⟨rfl, A3, n3, c3, l3, b3, hd3, hs3, hl3, hk3⟩
     exact ⟨_, rfl, hK _ _ (KeepTy.own1 hk3 hd5.cell hg) rfl⟩
    ·refine stageOf_free rfl (fun us vals w3 a' ha hd => ?_) ?_
     ·obtain ⟨_, d6, _⟩ := hd
      have q : a'.tmps[16]? = some (us 6) := by rw [ha.out]; kernel_rfl
      rw [show us 6 = .bool false from d6] at q
      exact wanted_some rfl rfl q
     intro us vals w3 a' ha hle hW hd hv K hK
     obtain ⟨d9, _, _⟩ := hd
     have q19 : a'.tmps[19]? = some (us 9) := by rw [ha.out]; kernel_rfl
     have e9 : us 9 = .int .u32 (S1 : Int) := getW.v1 hW d9
     rw [e9] at q19
     exact sV (v := .int .i64 (S1 : Int)) hK rfl
    ·refine stageOf_free rfl (fun us vals w3 a' ha hd => ?_) ?_
     ·obtain ⟨d6, _⟩ := hd
      have q : a'.tmps[16]? = some (us 6) := by rw [ha.out]; kernel_rfl
      rw [show us 6 = .bool false from d6] at q
      exact wanted_some rfl rfl q
     intro us vals w3 a' ha hle hW hd hv K hK
     have q4 : a'.tmps[4]? = some (.int .i64 (n : Int)) := by rw [ha.out]; kernel_rfl
     exact sV hK rfl
    ·refine stageOf_free rfl (fun us vals w3 a' ha hd => ?_) ?_
     ·obtain ⟨_, _, d6, _⟩ := hd
      have q : a'.tmps[16]? = some (us 6) := by rw [ha.out]; kernel_rfl
      rw [show us 6 = .bool false from d6] at q
      exact wanted_some rfl rfl q
     intro us vals w3 a' ha hle hW hd hv K hK
     obtain ⟨d10, d11, _, _⟩ := hd
     have q20 : a'.tmps[20]? = some (us 10) := by rw [ha.out]; kernel_rfl
     rw [show us 10 = .int .i64 (S1 : Int) from d10] at q20
     have q21 : a'.tmps[21]? = some (us 11) := by rw [ha.out]; kernel_rfl
     rw [show us 11 = .int .i64 (n : Int) from d11] at q21
     exact sV (v := .bool false) hK rfl
    ·refine sF rfl rfl ?_
     intro us vals w3 a' ha hle hW hd hv K hK
     obtain ⟨d6, d12, _⟩ := hd
     have q16 : a'.tmps[16]? = some (us 6) := by rw [ha.out]; kernel_rfl
     rw [show us 6 = .bool false from d6] at q16
     have q22 : a'.tmps[22]? = some (us 12) := by rw [ha.out]; kernel_rfl
     rw [show us 12 = .bool false from d12] at q22
     exact sV (v := .bool false) hK rfl
    ·refine sF rfl rfl ?_
     intro us vals w3 a' ha hle hW hd hv K hK
     obtain ⟨d13, _, _⟩ := hd
     have q23 : a'.tmps[23]? = some (us 13) := by rw [ha.out]; kernel_rfl
     rw [show us 13 = .bool false from d13] at q23
     exact sV hK rfl
    ·refine stageOf_free rfl (fun us vals w3 a' ha hd => ?_) ?_
     ·obtain ⟨d14, _⟩ := hd
      have q : a'.tmps[24]? = some (us 14) := by rw [ha.out]; kernel_rfl
      rw [show us 14 = .bool false from d14] at q
      exact wanted_some rfl rfl q
     intro us vals w3 a' ha hle hW hd hv K hK
     have q0 : a'.tmps[0]? = some (.slice A n c) := by rw [ha.out]; kernel_rfl
     exact sV hK rfl
    ·refine stageOf_free rfl (fun us vals w3 a' ha hd => ?_) ?_
     ·obtain ⟨d14, _⟩ := hd
      have q : a'.tmps[24]? = some (us 14) := by rw [ha.out]; kernel_rfl
      rw [show us 14 = .bool false from d14] at q
      exact wanted_some rfl rfl q
     intro us vals w3 a' ha hle hW hd hv K hK
     have q4 : a'.tmps[4]? = some (.int .i64 (n : Int)) := by rw [ha.out]; kernel_rfl
     exact sV hK rfl
    ·refine stageOf_free rfl (fun us vals w3 a' ha hd => ?_) ?_
     ·obtain ⟨_, d14, _⟩ := hd
      have q : a'.tmps[24]? = some (us 14) := by rw [ha.out]; kernel_rfl
      rw [show us 14 = .bool false from d14] at q
      exact wanted_some rfl rfl q
     intro us vals w3 a' ha hle hW hd hv K hK
     obtain ⟨d16, _, _⟩ := hd
     have q26 : a'.tmps[26]? = some (us 16) := by rw [ha.out]; kernel_rfl
     rw [show us 16 = .int .i64 (n : Int) from d16] at q26
     exact sV (v := .int .i64 ((n : Int) - 4)) hK rfl
    ·refine stageOf_free rfl (fun us vals w3 a' ha hd => ?_) ?_
     ·obtain ⟨_, _, d14, _⟩ := hd
      have q : a'.tmps[24]? = some (us 14) := by rw [ha.out]; kernel_rfl
      rw [show us 14 = .bool false from d14] at q
      exact wanted_some rfl rfl q
     intro us vals w3 a' ha hle hW hd hv K hK
     obtain ⟨d15, d17, _, _⟩ := hd
     have q25 : a'.tmps[25]? = some (us 15) := by rw [ha.out]; kernel_rfl
     rw [show us 15 = .slice A n c from d15] at q25
     have q27 : a'.tmps[27]? = some (us 17) := by rw [ha.out]; kernel_rfl
     rw [show us 17 = .int .i64 ((n : Int) - 4) from d17] at q27
     exact step_cut_tail bytesTy (s := 25) (h := 27) rfl q25 q27 (n - 4) (by omega) (by omega) (hK _ _ (Grow.refl _) rfl)
    ·refine stageOf_mem (t := 2) rfl ?_
     intro us vals w3 a' ha hle hW hd hv
     obtain ⟨d18, d14, _, _⟩ := hd
     have qg : a'.tmps[24]? = some (us 14) := by rw [ha.out]; kernel_rfl
     rw [show us 14 = .bool false from d14] at qg
     refine ⟨wanted_some rfl rfl qg, fun K hK => ?_⟩
     have q28 : a'.tmps[28]? = some (us 18) := by rw [ha.out]; kernel_rfl
     rw [show us 18 = .slice (cutA A c (n - 4) 1) (n - (n - 4)) (c - (n - 4)) from d18] at q28
     obtain ⟨x0, x1, rfl⟩ := len2 hv
     have hbT : BytesAt w3 B (cutA A c (n - 4) 1) (n - (n - 4)) (b.drop (n - 4)) := (hbK w3 hle).tail (n - 4) (by omega) hnc
     refine step_call (f := 47) (args := #[.slice (cutA A c (n - 4) 1) (n - (n - 4)) (c - (n - 4))]) (by go_simp) ?_
     refine (Read_any w3 B _ _ _ _ hbT (Nat.le_trans hBz hle.size) (by omega)).mono ?_
     rintro e w4 ⟨g, A2, c2, rfl, hg, hd5, hG⟩
     exact ⟨_, rfl, hK _ _ (keepTy_grow _ _ hG) ⟨hW, g, A2, _, c2, rfl, Nat.le_trans hle.size hg, hd5⟩⟩
    ·refine stageOf_mem (t := 3) rfl ?_
     intro us vals w3 a' ha hle hW hd hv
     obtain ⟨d19, _, d14, _⟩ := hd
     have qg : a'.tmps[24]? = some (us 14) := by rw [ha.out]; kernel_rfl
     rw [show us 14 = .bool false from d14] at qg
     refine ⟨wanted_some rfl rfl qg, fun K hK => ?_⟩
     have q29 : a'.tmps[29]? = some (us 19) := by rw [ha.out]; kernel_rfl
     obtain ⟨x0, x1, x2, rfl⟩ := len3 hv
     obtain rfl : us 19 = x2 := by have h0 : some x2 = some (us 19) := d19; injection h0 with h0; exact h0.symm
     obtain ⟨hv1, g, A2, n2, c2, e8, hg, hd5⟩ := hW
     rw [e8] at q29
     refine step_call (f := 93) (args := #[.pointer (some ⟨g, 0, none⟩)]) (by go_simp) ?_
     have hn := RFixed_any w3 g A2 n2 c2 (b.drop (n - 4)) false hd5
     rw [stOf_false, ← HS2.out] at hn
     refine hn.mono ?_
     rintro e w4 ⟨rfl, A3, n3, c3, l3, b3, hd3, hs3, hl3, hk3⟩
     exact ⟨_, rfl, hK _ _ (KeepTy.own1 hk3 hd5.cell hg) ⟨hv1, rfl⟩⟩
    ·refine stageOf_free rfl (fun us vals w3 a' ha hd => ?_) ?_
     ·obtain ⟨d14, _⟩ := hd
      have q : a'.tmps[24]? = some (us 14) := by rw [ha.out]; kernel_rfl
      rw [show us 14 = .bool false from d14] at q
      exact wanted_some rfl rfl q
     intro us vals w3 a' ha hle hW hd hv K hK
     have q0 : a'.tmps[0]? = some (.slice A n c) := by rw [ha.out]; kernel_rfl
     exact sV hK rfl
    ·refine stageOf_free rfl (fun us vals w3 a' ha hd => ?_) ?_
     ·obtain ⟨d14, _⟩ := hd
      have q : a'.tmps[24]? = some (us 14) := by rw [ha.out]; kernel_rfl
      rw [show us 14 = .bool false from d14] at q
      exact wanted_some rfl rfl q
     intro us vals w3 a' ha hle hW hd hv K hK
     have q4 : a'.tmps[4]? = some (.int .i64 (n : Int)) := by rw [ha.out]; kernel_rfl
     exact sV hK rfl
    ·refine stageOf_free rfl (fun us vals w3 a' ha hd => ?_) ?_
     ·obtain ⟨_, d14, _⟩ := hd
      have q : a'.tmps[24]? = some (us 14) := by rw [ha.out]; kernel_rfl
      rw [show us 14 = .bool false from d14] at q
      exact wanted_some rfl rfl q
     intro us vals w3 a' ha hle hW hd hv K hK
     obtain ⟨d22, _, _⟩ := hd
     have q32 : a'.tmps[32]? = some (us 22) := by rw [ha.out]; kernel_rfl
     rw [show us 22 = .int .i64 (n : Int) from d22] at q32
     exact sV (v := .int .i64 ((n : Int) - 4)) hK rfl
    ·refine stageOf_free rfl (fun us vals w3 a' ha hd => ?_) ?_
     ·obtain ⟨_, _, d14, _⟩ := hd
      have q : a'.tmps[24]? = some (us 14) := by rw [ha.out]; kernel_rfl
      rw [show us 14 = .bool false from d14] at q
      exact wanted_some rfl rfl q
     intro us vals w3 a' ha hle hW hd hv K hK
     obtain ⟨d21, d23, _, _⟩ := hd
     have q31 : a'.tmps[31]? = some (us 21) := by rw [ha.out]; kernel_rfl
     rw [show us 21 = .slice A n c from d21] at q31
     have q33 : a'.tmps[33]? = some (us 23) := by rw [ha.out]; kernel_rfl
     rw [show us 23 = .int .i64 ((n : Int) - 4) from d23] at q33
     exact step_cut_head bytesTy (s := 31) (h := 33) rfl q31 q33 (n - 4) (by omega) (by omega) (hK _ _ (Grow.refl _) rfl)
    ·refine stageOf_free rfl (fun us vals w3 a' ha hd => ?_) ?_
     ·obtain ⟨_, d14, _⟩ := hd
      have q : a'.tmps[24]? = some (us 14) := by rw [ha.out]; kernel_rfl
      rw [show us 14 = .bool false from d14] at q
      exact wanted_some rfl rfl q
     intro us vals w3 a' ha hle hW hd hv K hK
     obtain ⟨d24, _, _⟩ := hd
     have q34 : a'.tmps[34]? = some (us 24) := by rw [ha.out]; kernel_rfl
     rw [show us 24 = .slice A (n - 4) c from d24] at q34
     refine step_value (v := .slice (some ⟨w3.heap.size, 0, none⟩) 1 1) (w2 := w3.alloc (.cells #[.slice A (n - 4) c] 28)) (by go_simp) (hK _ _ (Grow.alloc _ _) ?_)
     exact ⟨_, rfl, hle.size, Blk.new _ _ _⟩
    ·refine stageOf_free rfl (fun us vals w3 a' ha hd => ?_) ?_
     ·obtain ⟨_, _, d14, _⟩ := hd
      have q : a'.tmps[24]? = some (us 14) := by rw [ha.out]; kernel_rfl
      rw [show us 14 = .bool false from d14] at q
      exact wanted_some rfl rfl q
     intro us vals w3 a' ha hle hW hd hv K hK
     obtain ⟨⟨m25, u25, z25, b25⟩, _, _, _⟩ := hd
     have q35 : a'.tmps[35]? = some (us 25) := by rw [ha.out]; kernel_rfl
     rw [u25] at q35
     refine step_call (f := 66) (args := #[.slice (some ⟨m25, 0, none⟩) 1 1]) (by go_simp) ?_
     have hbH := ((hbK w3 hle).head (n - 4) (by omega)).more (Nat.le_trans hBz hle.size)
     refine (Sum_any w3 w3.heap.size _ 1 1 [b.take (n - 4)] (RowsAt.one b25.cells b25.lt hbH (by omega) hc) (Nat.le_refl _) (by simp only [maxLen]; omega)).mono ?_
     rintro e w4 ⟨rfl, hb4⟩
     exact ⟨_, rfl, hK _ _ hb4 (by rw [List.flatten_cons, List.flatten_nil, List.append_nil, ← HS3.out]; rfl)⟩
    ·refine stageOf_free rfl (fun us vals w3 a' ha hd => ?_) ?_
     ·obtain ⟨_, _, d14, _⟩ := hd
      have q : a'.tmps[24]? = some (us 14) := by rw [ha.out]; kernel_rfl
      rw [show us 14 = .bool false from d14] at q
      exact wanted_some rfl rfl q
     intro us vals w3 a' ha hle hW hd hv K hK
     obtain ⟨d20, d26, _, _⟩ := hd
     have q30 : a'.tmps[30]? = some (us 20) := by rw [ha.out]; kernel_rfl
     have q36 : a'.tmps[36]? = some (us 26) := by rw [ha.out]; kernel_rfl
     rw [show us 26 = .int .u32 (S3 : Int) from d26] at q36
     have e20 : us 20 = .int .u32 (S2 : Int) := getW.v2 hW d20
     rw [e20] at q30
     exact sV (v := .bool x) hK rfl
    ·refine sF rfl rfl ?_
     intro us vals w3 a' ha hle hW hd hv K hK
     obtain ⟨d14, d27, _⟩ := hd
     have q24 : a'.tmps[24]? = some (us 14) := by rw [ha.out]; kernel_rfl
     rw [show us 14 = .bool false from d14] at q24
     have q37 : a'.tmps[37]? = some (us 27) := by rw [ha.out]; kernel_rfl
     rw [show us 27 = .bool x from d27] at q37
     exact sV (v := .bool x) hK rfl
   ·intro us vals w3 hle hvl _ _ hf
    have h28 : us 28 = .bool x := hf 28 (by decide) rfl
    generalize ha2 : fills _ _ _ _ = a2
    obtain rfl : a2 = { tmps := #[.slice A n c, undef, .pointer (some ⟨w.heap.size, 0, none⟩), .pointer (some ⟨w.heap.size + 1, 0, none⟩), .int .i64 (n : Int), undef, undef, undef, .slice A n c, .int .i64 (n : Int), us 0, us 1, us 2, us 3, us 4, us 5, us 6, us 7, us 8, us 9, us 10, us 11, us 12, us 13, us 14, us 15, us 16, us 17, us 18, us 19, us 20, us 21, us 22, us 23, us 24, us 25, us 26, us 27, us 28, undef, undef, undef, undef, undef, undef, undef, undef, undef, undef, undef, undef, undef, undef, undef, undef, undef, undef, undef, undef, undef, undef, undef, undef, undef], defers := [] } := by rw [← ha2]; kernel_rfl
    clear ha2
    rw [h28]
    cases x with
    | true =>
     have hgb : getB b = none := Hgb.out
     have hO3 := KeepTy.low hle hbO hbO.lt
     have hE3 := KeepTy.low hle hbE hbE.lt
     have hcO := hO3.cell 0
     have hcE := hE3.cell 0
     have hfO := hO3.frozen 0
     have hfE := hE3.frozen 0
     have hGw : Below w.heap.size w w3 := Below.trans hG0 (Below.mono (hle.below (Nat.le_refl _)) hG0.size)
     gi_wp2
     (try rw [Exit.noGoto_ret])
     have hO4 : Blk ((w3.setCell ⟨w.heap.size, 0, none⟩ (.slice none 0 0)).setCell ⟨w.heap.size + 1, 0, none⟩ (.int .i64 9)) w.heap.size 41 #[.slice none 0 0] := (hO3.set 0 (.slice none 0 0)).far (by simp) _
     have hE4 : Blk ((w3.setCell ⟨w.heap.size, 0, none⟩ (.slice none 0 0)).setCell ⟨w.heap.size + 1, 0, none⟩ (.int .i64 9)) (w.heap.size + 1) 29 #[.int .i64 9] := (hE3.far (p := ⟨w.heap.size, 0, none⟩) (by simp) (.slice none 0 0)).set 0 (.int .i64 9)
     have hc1 := hO4.cell 0
     have hc2 := hE4.cell 0
     exact ⟨_, results_cells2 rfl _ _ w.heap.size (w.heap.size + 1) (.slice none 0 0) (.int .i64 9) rfl rfl (by go_simp) (by go_simp), Or.inr ⟨hgb, rfl, Below.setCell (Below.setCell hGw (Nat.le_refl _) _) (Nat.le_succ _) _⟩⟩
    | false =>
     have hgb : getB b = partsL ((b.take (n - 4)).drop 4) := Hgb.out
     obtain ⟨L, hL⟩ : ∃ L, L = (b.take (n - 4)).drop 4 := ⟨_, rfl⟩
     rw [← hL] at hgb
     have HL := Lib.hid hL
     have Hgb2 := Lib.hid hgb
     have hO2 := KeepTy.low hle hbO hbO.lt
     have hE2 := KeepTy.low hle hbE hbE.lt
     have hGw : Grow w w3 := Below.trans hG0 (Below.mono (hle.below (Nat.le_refl _)) hG0.size)
     have hb3 := hbK w3 hle
     have hB2 : B ≤ w3.heap.size := Nat.le_trans hBz hle.size
     have hLB : BytesAt w3 B (cutA A c 4 1) (n - 4 - 4) L := by
      rw [hL]
      exact (hb3.head (n - 4) (by omega)).tail 4 (by omega) (by omega)
     have hLK : ∀ W, Grow w3 W → BytesAt W B (cutA A c 4 1) (n - 4 - 4) L := fun W h => hLB.below (Below.mono h hB2)
     obtain ⟨W2, hW2⟩ : ∃ W2, W2 = w3 := ⟨_, rfl⟩
     rw [← hW2] at hO2 hE2 hGw hLK hB2 ⊢
     clear hbO hbE hbK hle hgb Hgb hL hb3 hLB hW2
     gi_wp2
     refine wpIn_wide.2 (wp_region_stages (by kernel_rfl) ?_)
     refine anyOrder_start [] (Keep (fun _ => False)) (fun _ _ => True) (FactsOn [.is (.slice A n c), .is (.int .i64 (n : Int)), .is (.int .i64 ((n : Int) - 4)), .is (.slice (cutA A c 4 1) (n - 4 - 4) (c - 4)), .rd 0 L, .is (.slice A n c), .is (.int .i64 (n : Int)), .is (.int .i64 ((n : Int) - 4)), .is (.slice (cutA A c 4 1) (n - 4 - 4) (c - 4)), .rdAgg 0 L (.slice (cutA A c 4 1) (n - 4 - 4) (c - 4)), .frNew W2.heap.size L (.slice (cutA A c 4 1) (n - 4 - 4) (c - 4)), .frNew W2.heap.size L (.slice (cutA A c 4 1) (n - 4 - 4) (c - 4))]) (fun i => 99) keep_trans keep_grow (fun _ _ _ _ h => h) (factsOn_mono _) (by kernel_rfl) (by kernel_rfl) trivial ?_ ?_
     ·refine ⟨?_, ?_, ?_, ?_, ?_, ?_, ?_, ?_, ?_, ?_, ?_, ?_, trivial⟩
      ·refine sF rfl rfl ?_
       intro us vals w3 a' ha hle hW hd hv K hK
       have q0 : a'.tmps[0]? = some (.slice A n c) := by rw [ha.out]; kernel_rfl
       exact sV hK rfl
      ·refine sF rfl rfl ?_
       intro us vals w3 a' ha hle hW hd hv K hK
       have q4 : a'.tmps[4]? = some (.int .i64 (n : Int)) := by rw [ha.out]; kernel_rfl
       exact sV hK rfl
      ·refine sF rfl rfl ?_
       intro us vals w3 a' ha hle hW hd hv K hK
       obtain ⟨d1, _⟩ := hd
       have q40 : a'.tmps[40]? = some (us 1) := by rw [ha.out]; kernel_rfl
       rw [show us 1 = .int .i64 (n : Int) from d1] at q40
       exact sV (v := .int .i64 ((n : Int) - 4)) hK rfl
      ·refine sF rfl rfl ?_
       intro us vals w3 a' ha hle hW hd hv K hK
       obtain ⟨d0, d2, _⟩ := hd
       have q39 : a'.tmps[39]? = some (us 0) := by rw [ha.out]; kernel_rfl
       rw [show us 0 = .slice A n c from d0] at q39
       have q41 : a'.tmps[41]? = some (us 2) := by rw [ha.out]; kernel_rfl
       rw [show us 2 = .int .i64 ((n : Int) - 4) from d2] at q41
       exact step_cut_mid bytesTy (s := 39) (h := 41) rfl q39 rfl q41 4 (n - 4) (by omega) (by omega) (by omega) (by omega) (hK _ _ (Grow.refl _) rfl)
      ·refine sF rfl rfl ?_
       intro us vals w3 a' ha hle hW hd hv K hK
       obtain ⟨d3, _⟩ := hd
       have q42 : a'.tmps[42]? = some (us 3) := by rw [ha.out]; kernel_rfl
       rw [show us 3 = .slice (cutA A c 4 1) (n - 4 - 4) (c - 4) from d3] at q42
       refine step_call (f := 47) (args := #[.slice (cutA A c 4 1) (n - 4 - 4) (c - 4)]) (by go_simp) ?_
       refine (Read_any w3 B _ _ _ L (hLK w3 hle.toGrow) (Nat.le_trans hB2 hle.size) (by omega)).mono ?_
       rintro e w4 ⟨g, A2, c2, rfl, hg, hd5, hG⟩
       exact ⟨_, rfl, hK _ _ hG ⟨g, A2, _, c2, rfl, Nat.zero_le _, hd5⟩⟩
      ·refine sF rfl rfl ?_
       intro us vals w3 a' ha hle hW hd hv K hK
       have q0 : a'.tmps[0]? = some (.slice A n c) := by rw [ha.out]; kernel_rfl
       exact sV hK rfl
      ·refine sF rfl rfl ?_
       intro us vals w3 a' ha hle hW hd hv K hK
       have q4 : a'.tmps[4]? = some (.int .i64 (n : Int)) := by rw [ha.out]; kernel_rfl
       exact sV hK rfl
      ·refine sF rfl rfl ?_
       intro us vals w3 a' ha hle hW hd hv K hK
       obtain ⟨d6, _⟩ := hd
       have q45 : a'.tmps[45]? = some (us 6) := by rw [ha.out]; kernel_rfl
       rw [show us 6 = .int .i64 (n : Int) from d6] at q45
       exact sV (v := .int .i64 ((n : Int) - 4)) hK rfl
      ·refine sF rfl rfl ?_
       intro us vals w3 a' ha hle hW hd hv K hK
       obtain ⟨d5, d7, _⟩ := hd
       have q44 : a'.tmps[44]? = some (us 5) := by rw [ha.out]; kernel_rfl
       rw [show us 5 = .slice A n c from d5] at q44
       have q46 : a'.tmps[46]? = some (us 7) := by rw [ha.out]; kernel_rfl
       rw [show us 7 = .int .i64 ((n : Int) - 4) from d7] at q46
       exact step_cut_mid bytesTy (s := 44) (h := 46) rfl q44 rfl q46 4 (n - 4) (by omega) (by omega) (by omega) (by omega) (hK _ _ (Grow.refl _) rfl)
      ·refine sF rfl rfl ?_
       intro us vals w3 a' ha hle hW hd hv K hK
       obtain ⟨⟨g4, A4, n4, c4, u4, z4, r4⟩, d8, _⟩ := hd
       have q43 : a'.tmps[43]? = some (us 4) := by rw [ha.out]; kernel_rfl
       rw [u4] at q43
       have q47 : a'.tmps[47]? = some (us 8) := by rw [ha.out]; kernel_rfl
       rw [show us 8 = .slice (cutA A c 4 1) (n - 4 - 4) (c - 4) from d8] at q47
       refine step_value (v := .agg #[.pointer (some ⟨g4, 0, none⟩), .slice (cutA A c 4 1) (n - 4 - 4) (c - 4)]) (w2 := w3) ?_ (hK _ _ (Grow.refl _) ⟨_, rfl, g4, _, _, _, rfl, z4, r4⟩)
       go_simp
      ·refine sF rfl rfl ?_
       intro us vals w3 a' ha hle hW hd hv K hK
       obtain ⟨⟨p9, u9, g9, A9, n9, c9, e9, z9, r9⟩, _⟩ := hd
       have q48 : a'.tmps[48]? = some (us 9) := by rw [ha.out]; kernel_rfl
       rw [u9] at q48
       subst e9
       refine step_value (v := .pointer (some ⟨w3.heap.size, 0, none⟩)) (w2 := w3.alloc (.cells #[.pointer (some ⟨g9, 0, none⟩), .slice (cutA A c 4 1) (n - 4 - 4) (c - 4)] 154)) (by go_simp) (hK _ _ (Grow.alloc _ _) ⟨w3.heap.size, g9, rfl, hle.size, Blk.new _ _ _, _, _, _, r9.grow (Grow.alloc _ _)⟩)
      ·refine sF rfl rfl ?_
       intro us vals w3 a' ha hle hW hd hv K hK
       obtain ⟨⟨R10, g10, u10, z10, b10, r10⟩, _, _, _, _, _, _, _, _, _, _, _, _, _⟩ := hd
       have q49 : a'.tmps[49]? = some (us 10) := by rw [ha.out]; kernel_rfl
       rw [u10] at q49
       exact step_value (w2 := w3) (by go_simp) (hK _ _ (Grow.refl _) ⟨_, _, rfl, z10, b10, r10⟩)
     ·intro us2 vals2 w4 hle hvl2 _ _ hf2
      obtain ⟨R, g, h11, hRz, hRb, A', n', c', hrd⟩ := hf2 11 (by decide) rfl
      have hG4 := hle.toGrow
      generalize ha3 : fills _ _ _ _ = a3
      obtain rfl : a3 = { tmps := #[.slice A n c, undef, .pointer (some ⟨w.heap.size, 0, none⟩), .pointer (some ⟨w.heap.size + 1, 0, none⟩), .int .i64 (n : Int), us2 11, undef, undef, .slice A n c, .int .i64 (n : Int), us 0, us 1, us 2, us 3, us 4, us 5, us 6, us 7, us 8, us 9, us 10, us 11, us 12, us 13, us 14, us 15, us 16, us 17, us 18, us 19, us 20, us 21, us 22, us 23, us 24, us 25, us 26, us 27, .bool false, us2 0, us2 1, us2 2, us2 3, us2 4, us2 5, us2 6, us2 7, us2 8, us2 9, us2 10, undef, undef, undef, undef, undef, undef, undef, undef, undef, undef, undef, undef, undef, undef], defers := [] } := by rw [← ha3]; kernel_rfl
      clear ha3
      rw [h11]
      gi_wp2
      refine wpIn_label ?_
      gi_wp2_with (refine ⟨trivial, ?_⟩; gi_at_call 94; refine (callsIn_wide.2 (fall_any R _)).mono ?_; rintro e w' ⟨rfl, rfl⟩)
      obtain ⟨W5, hW5⟩ : ∃ W5, w4.alloc (.cells #[.pointer (some ⟨R, 0, none⟩)] 152) = W5 := ⟨_, rfl⟩
      have hx0 : Boxed W5 w4.heap.size 152 (.pointer (some ⟨R, 0, none⟩)) := by rw [← hW5]; exact Boxed.new _ _ _
      have hG5 : Grow W2 W5 := by rw [← hW5]; exact hG4.trans (Grow.alloc _ _)
      have hR5 : Blk W5 R 154 #[.pointer (some ⟨g, 0, none⟩), .slice (cutA A c 4 1) (n - 4 - 4) (c - 4)] := by rw [← hW5]; exact hRb.alloc _
      have hrd5 : Rd W5 g A' n' c' L false := by rw [← hW5]; exact hrd.grow (Grow.alloc _ _)
      rw [hW5]
      have hO5 := Grow.blkOf hG5 hO2
      have hE5 := Grow.blkOf hG5 hE2
      have hGw5 := hGw.trans hG5
      have hLB5 := hLK W5 hG5
      have hz5 := hG5.size
      have hzR : w.heap.size + 1 < R := Nat.lt_of_lt_of_le hE2.lt hRz
      have hzw : w.heap.size + 1 < W5.heap.size := Nat.lt_of_lt_of_le hE2.lt hz5
      have hLl := hLB5.len
      have HLl := Lib.hid hLl
      clear hW5 hO2 hE2 hRb hrd hLK hLl
      refine rangeJ rfl (by omega) (gf := 141) (lb := #[.pointer (some ⟨w4.heap.size, 0, none⟩)]) rfl trivial (enters_of Tryz.func141 (by kernel_rfl) rfl) ?_
      intro fn rec W6 _ hrec hg6 hz6 hD6 hlp6
      have hk6 : Keep (fun _ => False) W5 W6 := (Keep.grown hg6).mono fun j h => by cases h
      have hG6 := hk6.toGrow
      have hJ0 : GetJ w W5.heap.size (W5.heap.size + 1) rec [] W6 := ⟨hlp6, hD6, ⟨_, [], Grow.blkOf hG6 hO5, PartsOwn.nil _ _⟩, Grow.blkOf hG6 hE5, hGw5.trans hG6⟩
      have hF0 : FRd W6 B R (cutA A c 4 1) (n - 4 - 4) (c - 4) L g L false := ⟨Grow.blkOf hG6 hR5, ⟨_, _, _, hrd5.grow hG6⟩, hLB5.below (Below.mono hG6 (by omega)), by omega, fun _ => ⟨by rw [HLl.out]; exact Nat.le_refl _, by rw [HLl.out, Nat.sub_self, List.drop_zero]⟩, by omega, by omega, by omega⟩
      refine (fall1_any 3 (by omega) (W5.heap.size + 1) w4.heap.size B R (cutA A c 4 1) (n - 4 - 4) (c - 4) L (GetJ w W5.heap.size (W5.heap.size + 1) rec) (GetN w W5.heap.size (W5.heap.size + 1) rec) L ?yes ?no W6 g hF0 (Grow.blkOf hG6 (show Blk W5 w4.heap.size 152 #[.pointer (some ⟨R, 0, none⟩)] from hx0)) hJ0 (fun ts W h => Nat.le_trans hB h.below.size)).mono ?_
      case yes =>
       clear hJ0 hF0 hk6 hg6 hD6 hlp6 hx0 hR5 hrd5 hLB5
       intro ts t v Bv g2 r W0' W6' htl hJ hRt hk hBv hF hbx hown
       obtain ⟨A5, c5, rfl, h51, h52, h53⟩ := own_reads hown
       have hRty : ∀ k, Own1 R k → ∀ cs t, W0'.heap[k]? = some (.cells cs t (0, 0)) → t = 154 := fun k hk cs t ht => by
        obtain ⟨cs2, hcs⟩ := hRt
        rw [show k = R from hk, show W0'.heap[R]? = _ from hcs] at ht
        cases ht
        rfl
       have hG7 : Grow W6' (W6'.alloc (.cells #[.int .u8 (t.tag.toNat : Int), .slice A5 t.b.length c5] 40)) := Grow.alloc _ _
       have hp7 := Blk.new W6' 40 #[.int .u8 (t.tag.toNat : Int), .slice A5 t.b.length c5]
       have hz67 : (W6'.alloc (.cells #[.int .u8 (t.tag.toNat : Int), .slice A5 t.b.length c5] 40)).heap.size = W6'.heap.size + 1 := by simp
       have Hz67 := Lib.hid hz67
       clear hz67
       have hj0 : W6'.heap[W5.heap.size + 1]? = _ := hk.obj hJ.loop (fun e => by
        obtain ⟨cs2, hcs⟩ := hRt
        have h := hJ.loop
        rw [show W5.heap.size + 1 = R from e, show W0'.heap[R]? = _ from hcs] at h
        cases h)
       have hll := (Array.getElem?_eq_some_iff.1 hj0).1
       refine yieldJ trivial hrec hj0 rfl ?_
       gi_wp2
       obtain ⟨W7, hW7⟩ : ∃ W7, W6'.alloc (.cells #[.int .u8 (t.tag.toNat : Int), .slice A5 t.b.length c5] 40) = W7 := ⟨_, rfl⟩
       rw [hW7]
       rw [hW7] at hG7 hp7 Hz67
       clear hW7
       have hk7 := hk.trans' (Keep.grow (S := Own1 R) hG7)
       obtain ⟨v0, vs, hO0, hP0⟩ := hJ.out
       have hD0R : ¬ Own1 R W5.heap.size := fun e => by
        obtain ⟨cs2, hcs⟩ := hRt
        have h := hJ.defers
        rw [show W5.heap.size = R from e, show W0'.heap[R]? = _ from hcs] at h
        cases h
       have hO7 := hk7.blk hO0 (fun e => by have e2 : w.heap.size = R := e; omega)
       have hE7 := hk7.blk hJ.err (fun e => by have e2 : w.heap.size + 1 = R := e; omega)
       have hP7 := hP0.kept hk7 fun k hk cs t ht => by rw [hRty k hk cs t ht]; decide
       have hl7 := (Keep.grow (S := fun _ => False) hG7).obj hj0 (fun h => h)
       have hD7 := hk7.obj hJ.defers hD0R
       have hb7 : Below w.heap.size w W7 := Below.trans hJ.below (hk7.below (fun k hk => by rw [show k = R from hk]; omega) hJ.below.size)
       have hBw : w.heap.size ≤ Bv := Nat.le_trans hJ.below.size hBv
       have hF7 := hF.grow hG7 (Nat.le_trans hB (Nat.le_trans hJ.below.size hk.size))
       have hbx7 : Blk W7 w4.heap.size 152 #[.pointer (some ⟨R, 0, none⟩)] := Grow.blkOf hG7 (show Blk W6' w4.heap.size 152 #[.pointer (some ⟨R, 0, none⟩)] from hbx)
       have hown7 := own_below hown hG7
       have hnewx : ∀ (j : Nat) (y : Value) (k : Nat), vs[j]? = some y → y.ownBlock = some k → k < Bv := fun j y k h1 h2 => Nat.lt_of_lt_of_le (hP0.lt h1 h2).2 hBv
       have hvty : ∀ k, v0.ownBlock = some k → ∃ cur, W7.heap[k]? = some (.cells cur 40 (0, 0)) := fun k hk => own_obj hP7.own hk
       refine roundBody.mk hl7 fun w2 hg2 hl2 => ?_
       have hO2 := hO7.grown hg2 (by simp; omega)
       have hE2 := hE7.grown hg2 (by simp; omega)
       have hp2 := hp7.grown hg2 (by simp; omega)
       have hP2 := hP7.kept (Keep.grown hg2) fun k hk cs t ht => by
        injection hk with hk
        subst hk
        rw [hl7] at ht
        cases ht
       have hown2 := Keep.own (Keep.grown hg2) hown7 fun k hk hs => by
        injection hs with hs
        obtain ⟨cur, q⟩ := own_obj hown7 hk
        rw [← hs, hl7] at q
        cases q
       obtain ⟨A9, c9, rfl, -, -, -⟩ := own_reads hP2.own
       have hcO := hO2.cell 0
       have hcE := hE2.cell 0
       have hfO := hO2.frozen 0
       have hfE := hE2.frozen 0
       have hcp0 := hp2.cell 0
       have hcp1 := hp2.cell 1
       have partTy : AppTy Tryz.prog 41 40 (.agg #[.int .u8 0, .slice none 0 0]) 2 32 := AppTy.mk' Tryz.underlying41 (by kernel_rfl) rfl (by decide)
       have hkE := Keep.setCell w2 ⟨w.heap.size + 1, 0, none⟩ (.int .i64 9)
       have hP3 := (hP2.kept hkE fun k hk cs t ht => by
        rw [show k = w.heap.size + 1 from hk, show w2.heap[w.heap.size + 1]? = _ from hE2] at ht
        cases ht
        decide).grow (Grow.alloc _ (.cells #[.int .u8 (t.tag.toNat : Int), .slice A5 t.b.length c5] 40))
       have hown3 := own_below (hkE.own hown2 fun k hk hs => by
        obtain ⟨cur, q⟩ := own_obj hown2 hk
        rw [show k = w.heap.size + 1 from hs, show w2.heap[w.heap.size + 1]? = _ from hE2] at q
        cases q) (Grow.alloc _ (.cells #[.int .u8 (t.tag.toNat : Int), .slice A5 t.b.length c5] 40))
       have hrd3 := ReadsAt.madeS (w2.setCell ⟨w.heap.size + 1, 0, none⟩ (.int .i64 9)) 40 2 [.int .u8 (t.tag.toNat : Int), .slice A5 t.b.length c5] rfl
       rw [size_setCell] at hrd3
       have hk3 : Keep (fun j => j = w.heap.size + 1) w2 ((w2.setCell ⟨w.heap.size + 1, 0, none⟩ (.int .i64 9)).alloc (.cells #[.int .u8 (t.tag.toNat : Int), .slice A5 t.b.length c5] 40)) := hkE.trans' (Keep.alloc _ _)
       have hE3 := (hE2.set 0 (.int .i64 9)).alloc (.cells #[.int .u8 (t.tag.toNat : Int), .slice A5 t.b.length c5] 40)
       have hz3 : w.heap.size ≤ ((w2.setCell ⟨w.heap.size + 1, 0, none⟩ (.int .i64 9)).alloc (.cells #[.int .u8 (t.tag.toNat : Int), .slice A5 t.b.length c5] 40)).heap.size := Nat.le_trans (Nat.le_trans hb7.size hg2.size) hk3.size
       have HP3 := Lib.hid hP3
       have Hown3 := Lib.hid hown3
       have Hrd3 := Lib.hid hrd3
       have Hz3 := Lib.hid hz3
       have HE3 := Lib.hid hE3
       have Hk3 := Lib.hid hk3
       have htl2 : ts.length + 1 ≤ 67108864 := by have := HLl.out; omega
       clear hP2 hP3 hown3 hrd3 hz3 hE3 hk3 hkE hcE h53
       have hcE := hE2.cell 0
       have HO3 := Lib.hid ((hO2.far (p := ⟨w.heap.size + 1, 0, none⟩) (by simp) (.int .i64 9)).alloc (.cells #[.int .u8 (t.tag.toNat : Int), .slice A5 t.b.length c5] 40))
       have HneO := Lib.hid (show some w.heap.size ≠ (Value.slice A9 ts.length c9).ownBlock from fun e => by
        obtain ⟨cur, q⟩ := hvty _ e.symm
        rw [show W7.heap[w.heap.size]? = _ from hO7] at q
        cases q)
       have HneE := Lib.hid (show some (w.heap.size + 1) ≠ (Value.slice A9 ts.length c9).ownBlock from fun e => by
        obtain ⟨cur, q⟩ := hvty _ e.symm
        rw [show W7.heap[w.heap.size + 1]? = _ from hE7] at q
        cases q)
       gi_wp2_with (gi_at_builtin; refine wpListIn_append_reads _ rfl (.tmp 56) (.tmp 58) rfl partTy rfl HP3.out.own rfl Hrd3.out (by simp [Value.oneCell']) (by simp only [maxLen]; omega) (by omega) Hz3.out ?_; intro v' wq hown4 hgrow4 hat4; obtain ⟨A10, c10, rfl, -, -, -⟩ := own_reads hown4; have hO4 := HO3.out.grown hgrow4 HneO.out; have hE4 := HE3.out.grown hgrow4 HneE.out; have hcO4 := hO4.cell 0; have hfO4 := hO4.frozen 0; have hcE4 := hE4.cell 0; have hfE4 := hE4.frozen 0; have Hown4 := Lib.hid hown4; have Hgrow4 := Lib.hid hgrow4; clear hown4 hgrow4 hat4)
       obtain ⟨Wz, hWz⟩ : ∃ Wz, (wq.setCell ⟨w.heap.size, 0, none⟩ (.slice A10 (ts.length + 1) c10)).setCell ⟨w.heap.size + 1, 0, none⟩ (.int .i64 0) = Wz := ⟨_, rfl⟩
       have hOz : Blk Wz w.heap.size 41 #[.slice A10 (ts.length + 1) c10] := by rw [← hWz]; exact (hO4.set 0 (.slice A10 (ts.length + 1) c10)).far (by simp) _
       have hEz : Blk Wz (w.heap.size + 1) 29 #[.int .i64 0] := by rw [← hWz]; exact (hE4.far (p := ⟨w.heap.size, 0, none⟩) (by simp) (.slice A10 (ts.length + 1) c10)).set 0 (.int .i64 0)
       have hkz : Keep (fun j => j = w.heap.size ∨ j = w.heap.size + 1) wq Wz := by
        rw [← hWz]
        exact Keep.trans' ((Keep.setCell wq ⟨w.heap.size, 0, none⟩ (.slice A10 (ts.length + 1) c10)).mono fun j hj => Or.inl (Or.inl hj)) ((Keep.setCell _ ⟨w.heap.size + 1, 0, none⟩ (.int .i64 0)).mono fun j hj => Or.inl (Or.inr hj))
       rw [hWz]
       clear hWz
       obtain ⟨S, hSdef⟩ : ∃ S : Nat → Prop, S = fun j => j = W5.heap.size + 1 ∨ j = w.heap.size ∨ j = w.heap.size + 1 ∨ (Value.slice A9 ts.length c9).ownBlock = some j := ⟨_, rfl⟩
       have hSof : ∀ j, (j = W5.heap.size + 1 ∨ j = w.heap.size ∨ j = w.heap.size + 1 ∨ (Value.slice A9 ts.length c9).ownBlock = some j) → S j := fun j h => by rw [hSdef]; exact h
       have hSis : ∀ j, S j → (j = W5.heap.size + 1 ∨ j = w.heap.size ∨ j = w.heap.size + 1 ∨ (Value.slice A9 ts.length c9).ownBlock = some j) := fun j h => by rw [hSdef] at h; exact h
       clear hSdef
       have hk2z : Keep S w2 Wz := ((Hk3.out.mono fun j hj => Or.inl (hSof j (Or.inr (Or.inr (Or.inl hj))))).trans' ((Keep.grown Hgrow4.out).mono fun j hj => Or.inl (hSof j (Or.inr (Or.inr (Or.inr hj)))))).trans' (hkz.mono fun j hj => Or.inl (hSof j (by rcases hj with h | h; exact Or.inr (Or.inl h); exact Or.inr (Or.inr (Or.inl h)))))
       have hk7z : Keep S W7 Wz := ((Keep.grown hg2).mono fun j hj => Or.inl (hSof j (Or.inl (by injection hj with hj; exact hj.symm)))).trans' hk2z
       have hSty : ∀ j, S j → ∀ cs u, W7.heap[j]? = some (.cells cs u (0, 0)) → u = 41 ∨ u = 29 ∨ u = 40 := fun j hj cs u hu => by
        rcases hSis j hj with h | h | h | h
        ·rw [h, hl7] at hu; cases hu
        ·rw [h, show W7.heap[w.heap.size]? = _ from hO7] at hu; cases hu; exact Or.inl rfl
        ·rw [h, show W7.heap[w.heap.size + 1]? = _ from hE7] at hu; cases hu; exact Or.inr (Or.inl rfl)
        ·obtain ⟨cur, q⟩ := hvty j h
         rw [q] at hu; cases hu; exact Or.inr (Or.inr rfl)
       have hSge : ∀ j, S j → w.heap.size ≤ j := fun j hj => by
        rcases hSis j hj with h | h | h | h
        ·omega
        ·omega
        ·omega
        ·exact (hP7.own.lt j h).1
       have hSD : ¬ S W5.heap.size := fun hj => by
        rcases hSis _ hj with h | h | h | h
        ·omega
        ·omega
        ·omega
        ·obtain ⟨cur, q⟩ := hvty _ h
         rw [hD7] at q; cases q
       have hlz : Wz.heap[W5.heap.size + 1]? = _ := (Hk3.out.trans' (Keep.refl _ _) |>.obj hl2 (by show ¬ (W5.heap.size + 1 = w.heap.size + 1); omega) |> fun h => hkz.obj ((Keep.grown Hgrow4.out).obj h fun e => by
        obtain ⟨cur, q⟩ := hvty _ e
        rw [hl7] at q; cases q) (by omega))
       have hP4 := HP3.out.snoc Hown3.out hBw hnewx Hown4.out Hgrow4.out
       have hPz := hP4.kept hkz fun k hk cs u hu => by
        rcases hk with h | h
        ·rw [h, show wq.heap[w.heap.size]? = _ from hO4] at hu; cases hu; decide
        ·rw [h, show wq.heap[w.heap.size + 1]? = _ from hE4] at hu; cases hu; decide
       refine roundEnd.on hlz fun w' hg' hl' => ?_
       have hkf : Keep S W7 w' := hk7z.trans' ((Keep.grown hg').mono fun j hj => Or.inl (hSof j (Or.inl (by injection hj with hj; exact hj.symm))))
       refine ⟨rfl, ⟨hl', hkf.obj hD7 hSD, ⟨_, _, hOz.grown hg' (by simp; omega), hPz.kept (Keep.grown hg') fun k hk cs u hu => ?_⟩, hEz.grown hg' (by simp; omega), Below.trans hb7 (hkf.below hSge hb7.size)⟩, hF7.kept hkf (fun k hk => ⟨Nat.le_trans hB (hSge k hk), fun cs u hu => ?_⟩) (Nat.le_trans hB hb7.size), hkf.blk hbx7 fun hk => ?_⟩
       ·injection hk with hk
        rw [← hk, hlz] at hu
        cases hu
       ·rcases hSty k hk cs u hu with h | h | h <;> rw [h] <;> decide
       ·rcases hSty _ hk _ _ hbx7 with h | h | h <;> exact absurd h (by decide)
      case no =>
       clear hJ0 hF0 hk6 hg6 hD6 hlp6 hx0 hR5 hrd5 hLB5
       intro ts tag v Bv N xs W0' W6' hJ hRt hk hown hbx
       obtain ⟨A5, c5, rfl, h51, h52, h53⟩ := own_reads hown
       have hG7 : Grow W6' (W6'.alloc (.cells #[.int .u8 (tag.toNat : Int), .slice A5 N c5] 40)) := Grow.alloc _ _
       have hj0 : W6'.heap[W5.heap.size + 1]? = _ := hk.obj hJ.loop (fun e => by
        obtain ⟨cs2, hcs⟩ := hRt
        have h := hJ.loop
        rw [show W5.heap.size + 1 = R from e, show W0'.heap[R]? = _ from hcs] at h
        cases h)
       have hll := (Array.getElem?_eq_some_iff.1 hj0).1
       refine yieldJ trivial hrec hj0 rfl ?_
       gi_wp2
       obtain ⟨W7, hW7⟩ : ∃ W7, W6'.alloc (.cells #[.int .u8 (tag.toNat : Int), .slice A5 N c5] 40) = W7 := ⟨_, rfl⟩
       rw [hW7]
       rw [hW7] at hG7
       clear hW7
       have hk7 := hk.trans' (Keep.grow (S := Own1 R) hG7)
       obtain ⟨v0, vs, hO0, hP0⟩ := hJ.out
       have hD0R : ¬ Own1 R W5.heap.size := fun e => by
        obtain ⟨cs2, hcs⟩ := hRt
        have h := hJ.defers
        rw [show W5.heap.size = R from e, show W0'.heap[R]? = _ from hcs] at h
        cases h
       have hO7 := hk7.blk hO0 (fun e => by have e2 : w.heap.size = R := e; omega)
       have hE7 := hk7.blk hJ.err (fun e => by have e2 : w.heap.size + 1 = R := e; omega)
       have hl7 := (Keep.grow (S := fun _ => False) hG7).obj hj0 (fun h => h)
       have hD7 := hk7.obj hJ.defers hD0R
       have hb7 : Below w.heap.size w W7 := Below.trans hJ.below (hk7.below (fun k hk => by rw [show k = R from hk]; omega) hJ.below.size)
       refine roundBody.mk hl7 fun w2 hg2 hl2 => ?_
       have hO2 := hO7.grown hg2 (by simp; omega)
       have hE2 := hE7.grown hg2 (by simp; omega)
       have hD2 : w2.heap[W5.heap.size]? = _ := (hg2.block _ (Array.getElem?_eq_some_iff.1 hD7).1 (by simp)).trans hD7
       have hb2 : Below w.heap.size w w2 := Below.grown hb7 hg2 hb7.size (fun q hq => by injection hq with hq; omega)
       have hcE := hE2.cell 0
       have hfE := hE2.frozen 0
       gi_wp2
       have hkE := Keep.setCell w2 ⟨w.heap.size + 1, 0, none⟩ (.int .i64 9)
       have hEz : Blk (w2.setCell ⟨w.heap.size + 1, 0, none⟩ (.int .i64 9)) (w.heap.size + 1) 29 #[.int .i64 9] := hE2.set 0 (.int .i64 9)
       have hOz := hO2.far (p := ⟨w.heap.size + 1, 0, none⟩) (by simp) (.int .i64 9)
       have hDz := hkE.obj hD2 (by show ¬ (W5.heap.size = w.heap.size + 1); omega)
       have hbz : Below w.heap.size w (w2.setCell ⟨w.heap.size + 1, 0, none⟩ (.int .i64 9)) := Below.setCell hb2 (Nat.le_succ _) _
       refine roundEnd.exit (hkE.obj hl2 (by show ¬ (W5.heap.size + 1 = w.heap.size + 1); omega)) fun w' hg' hl' => ⟨rfl, ⟨hl', (hg'.block _ (Array.getElem?_eq_some_iff.1 hDz).1 (by simp)).trans hDz, ⟨_, hOz.grown hg' (by simp; omega)⟩, hEz.grown hg' (by simp; omega), Below.grown hbz hg' hbz.size (fun q hq => by injection hq with hq; omega)⟩⟩
      rintro e W7 ⟨⟨vv, rfl⟩, hJ⟩
      clear hJ0 hF0 hk6 hg6 hD6 hlp6 hx0 hR5 hrd5 hLB5
      cases hp : partsL L with
      | some ts =>
       rw [hp] at hJ
       have hJ7 : GetJ w W5.heap.size (W5.heap.size + 1) rec ts W7 := hJ
       obtain ⟨v, vs, hO7, hP7⟩ := hJ7.out
       have hgb : getB b = some ts := Hgb2.out.trans hp
       refine ⟨vv, .ready, none, rfl, by simp, hJ7.loop, fun W8 hg8 => ?_⟩
       have hO8 := hO7.grown hg8 (by simp; omega)
       have hE8 := hJ7.err.grown hg8 (by simp; omega)
       have hD8 := (hg8.block _ (Array.getElem?_eq_some_iff.1 hJ7.defers).1 (by simp)).trans hJ7.defers
       have hP8 : PartsOwn w.heap.size W8 v ts vs := hP7.kept (Keep.grown hg8) fun k hk cs t ht => by
        injection hk with hk
        subst hk
        rw [hJ7.loop] at ht
        cases ht
       have hb8 : Below w.heap.size w W8 := Below.grown hJ7.below hg8 hJ7.below.size (fun q hq => by injection hq with hq; omega)
       obtain ⟨A7, c7, rfl, -, -, -⟩ := own_reads hP7.own
       have hcO := hO8.cell 0
       have hcE := hE8.cell 0
       have hfO := hO8.frozen 0
       have hfE := hE8.frozen 0
       have HP8 := Lib.hid hP8
       have HJ7 := Lib.hid hJ7
       have Hp := Lib.hid hp
       have Hgb := Lib.hid hgb
       clear hJ hJ7 hP7 hO7 hp hgb hP8
       gi_wp2
       rw [Exit.noGoto_ret]
       obtain ⟨W9, hW9⟩ : ∃ W9, (W8.setCell ⟨w.heap.size, 0, none⟩ (.slice A7 ts.length c7)).setCell ⟨w.heap.size + 1, 0, none⟩ (.int .i64 0) = W9 := ⟨_, rfl⟩
       have hO9 : Blk W9 w.heap.size 41 #[.slice A7 ts.length c7] := by rw [← hW9]; exact (hO8.set 0 (.slice A7 ts.length c7)).far (by simp) _
       have hE9 : Blk W9 (w.heap.size + 1) 29 #[.int .i64 0] := by rw [← hW9]; exact (hE8.far (p := ⟨w.heap.size, 0, none⟩) (by simp) (.slice A7 ts.length c7)).set 0 (.int .i64 0)
       have hk9 : Keep (fun j => j = w.heap.size ∨ j = w.heap.size + 1) W8 W9 := by
        rw [← hW9]
        exact Keep.trans' ((Keep.setCell W8 ⟨w.heap.size, 0, none⟩ (.slice A7 ts.length c7)).mono fun j hj => Or.inl (Or.inl hj)) ((Keep.setCell _ ⟨w.heap.size + 1, 0, none⟩ (.int .i64 0)).mono fun j hj => Or.inl (Or.inr hj))
       have hP9 := HP8.out.kept hk9 fun k hk cs t ht => by
        rcases hk with rfl | rfl
        ·unfold Blk at hO8; rw [hO8] at ht; cases ht; decide
        ·unfold Blk at hE8; rw [hE8] at ht; cases ht; decide
       have hD9 := hk9.obj hD8 (by omega)
       have hb9 : Below w.heap.size w W9 := Below.trans hb8 (hk9.below (fun k hk => by omega) hb8.size)
       rw [hW9]
       refine leaves_marks (by simp) (B := w.heap.size + 2) [W5.heap.size] _ ⟨by simp, fun m hm => by simp at hm; omega, fun m hm => by simp at hm; rw [hm]; exact hD9⟩ fun w1 ho => ?_
       have hkM := Keep.only ho
       have hO1 := hkM.blk hO9 (by simp; omega)
       have hE1 := hkM.blk hE9 (by simp; omega)
       have hc1 := hO1.cell 0
       have hc2 := hE1.cell 0
       have hb1 : Below w.heap.size w w1 := Below.trans hb9 (ho.below fun m hm => by simp at hm; omega)
       exact ⟨_, results_cells2 rfl _ _ w.heap.size (w.heap.size + 1) (.slice A7 ts.length c7) (.int .i64 0) rfl rfl (by go_simp) (by go_simp), Or.inl ⟨ts, _, vs, Hgb.out, rfl, hP9.kept hkM (fun k hk cs t ht => by simp at hk; rw [hk, hD9] at ht; cases ht), hb1⟩⟩
      | none =>
       rw [hp] at hJ
       have hJ7 : GetN w W5.heap.size (W5.heap.size + 1) rec W7 := hJ
       obtain ⟨v, hO7⟩ := hJ7.out
       have hgb : getB b = none := Hgb2.out.trans hp
       refine ⟨vv, .done, some (.exit 0), rfl, by simp, hJ7.loop, fun W8 hg8 => ?_⟩
       have hO8 := hO7.grown hg8 (by simp; omega)
       have hE8 := hJ7.err.grown hg8 (by simp; omega)
       have hD8 := (hg8.block _ (Array.getElem?_eq_some_iff.1 hJ7.defers).1 (by simp)).trans hJ7.defers
       have hb8 : Below w.heap.size w W8 := Below.grown hJ7.below hg8 hJ7.below.size (fun q hq => by injection hq with hq; omega)
       have hcE := hE8.cell 0
       have hoe : w.heap.size + 1 ≠ w.heap.size := by omega
       have heo : w.heap.size ≠ w.heap.size + 1 := by omega
       clear hJ hJ7 hO7 hp
       gi_wp2
       refine wpIn_wide.2 (wp_region_stages (by kernel_rfl) ?_)
       refine anyOrder_start [1, 2] (Keep (fun j => j = w.heap.size ∨ j = w.heap.size + 1)) (endW w.heap.size (w.heap.size + 1) v W8) (FactsOn [.is (.int .i64 9), .any, .any]) (fun i => 99) keep_trans keep_grow (endW.grow) (factsOn_mono _) (by kernel_rfl) (by kernel_rfl) ⟨hO8, hE8, Keep.refl _ _⟩ ?_ ?_
       ·refine ⟨?_, ?_, ?_, trivial⟩
        ·refine sF rfl rfl ?_
         intro us vals w3 a' ha hle hW hd hv K hK
         have q3 : a'.tmps[3]? = some (.pointer (some ⟨w.heap.size + 1, 0, none⟩)) := by rw [ha.out]; kernel_rfl
         have hc := (endW.err hW).cell 0
         exact sV (v := .int .i64 9) hK rfl
        ·refine stageOf_mem (t := 0) rfl ?_
         intro us vals w3 a' ha hle hW hd hv
         obtain rfl := List.eq_nil_of_length_eq_zero (Nat.le_zero.1 (show vals.length ≤ 0 from Nat.le_of_eq hv))
         refine ⟨wanted_none rfl, fun K hK => ?_⟩
         have q2 : a'.tmps[2]? = some (.pointer (some ⟨w.heap.size, 0, none⟩)) := by rw [ha.out]; kernel_rfl
         have h2 := endW.nil hW hoe undef
         have hf := hW.1.frozen 0
         have hc := hW.1.cell 0
         refine step_skip (w2 := w3.setCell ⟨w.heap.size, 0, none⟩ (.slice none 0 0)) ?_ (hK _ _ h2.1 h2.2)
         go_simp
        ·refine stageOf_mem (t := 1) rfl ?_
         intro us vals w3 a' ha hle hW hd hv
         obtain ⟨d0, _, _, _, _⟩ := hd
         obtain ⟨x0, rfl⟩ := List.length_eq_one_iff.1 hv
         refine ⟨wanted_none rfl, fun K hK => ?_⟩
         have q3 : a'.tmps[3]? = some (.pointer (some ⟨w.heap.size + 1, 0, none⟩)) := by rw [ha.out]; kernel_rfl
         have q62 : a'.tmps[62]? = some (us 0) := by rw [ha.out]; kernel_rfl
         rw [show us 0 = .int .i64 9 from d0] at q62
         have h2 := endW.put hW heo undef
         have hf := hW.2.1.frozen 0
         have hc := hW.2.1.cell 0
         refine step_skip (w2 := w3.setCell ⟨w.heap.size + 1, 0, none⟩ (.int .i64 9)) ?_ (hK _ _ h2.1 h2.2)
         go_simp
       ·intro us3 vals3 W9 hle3 hvl3 hV3 _ _
        obtain ⟨x1, x2, rfl⟩ := len2 hvl3
        obtain ⟨hO9, hE9, hk9⟩ := hV3
        have hD9 := hk9.obj hD8 (by omega)
        have hb9 : Below w.heap.size w W9 := Below.trans hb8 (hk9.below (fun k hk => by omega) hb8.size)
        simp only [fills, Act.put, List.setIfInBounds_toArray, List.set_cons_succ, List.set_cons_zero]
        gi_wp2
        rw [Exit.noGoto_ret]
        refine leaves_marks (by simp) (B := w.heap.size + 2) [W5.heap.size] _ ⟨by simp, fun m hm => by simp at hm; omega, fun m hm => by simp at hm; rw [hm]; exact hD9⟩ fun w1 ho => ?_
        have hkM := Keep.only ho
        have hO1 := hkM.blk hO9 (by simp; omega)
        have hE1 := hkM.blk hE9 (by simp; omega)
        have hc1 := hO1.cell 0
        have hc2 := hE1.cell 0
        have hb1 : Below w.heap.size w w1 := Below.trans hb9 (ho.below fun m hm => by simp at hm; omega)
        exact ⟨_, results_cells2 rfl _ _ w.heap.size (w.heap.size + 1) (.slice none 0 0) (.int .i64 9) rfl rfl (by go_simp) (by go_simp), Or.inr ⟨hgb, rfl, hb1⟩⟩
  ·have hgb : getB b = none := by
    rw [getB, if_neg]
    intro h
    apply hs1
    have := h.2.2.1
    rw [HS1.out, this, Hlen.out]
   have d2 : ((S1 : Int) != (n : Int)) = true := by rw [bne_iff_ne]; omega
   refine wpIn_wide.2 (wp_region_stages (by kernel_rfl) ?_)
   refine anyOrder_start [8, 9] (KeepTy W0.heap.size 161) (getW W0.heap.size b (b.drop (n - 4)) (.int .u32 (S1 : Int)) (.int .u32 (S2 : Int))) (FactsOn [.is (.int .i64 (n : Int)), .is (.bool false), .is (.bool false), .is (.int .i64 (n : Int)), .is (.bool false), .is (.bool false), .is (.bool false), .is (.slice A n c), .any, .any, .is (.int .i64 (S1 : Int)), .is (.int .i64 (n : Int)), .is (.bool true), .is (.bool true), .is (.bool true), .is (undef), .is (undef), .is (undef), .is (undef), .is (undef), .is (undef), .is (undef), .is (undef), .is (undef), .is (undef), .is (undef), .is (undef), .is (undef), .is (.bool true)]) (fun i => 99) keepTy_trans keepTy_grow (getW.grow) (factsOn_mono _) (by kernel_rfl) (by kernel_rfl) trivial ?_ ?_
   ·refine ⟨?_, ?_, ?_, ?_, ?_, ?_, ?_, ?_, ?_, ?_, ?_, ?_, ?_, ?_, ?_, ?_, ?_, ?_, ?_, ?_, ?_, ?_, ?_, ?_, ?_, ?_, ?_, ?_, ?_, trivial⟩
    ·refine sF rfl rfl ?_
     intro us vals w3 a' ha hle hW hd hv K hK
     have q4 : a'.tmps[4]? = some (.int .i64 (n : Int)) := by rw [ha.out]; kernel_rfl
     exact sV hK rfl
    ·refine sF rfl rfl ?_
     intro us vals w3 a' ha hle hW hd hv K hK
     obtain ⟨d0, _⟩ := hd
     have q10 : a'.tmps[10]? = some (us 0) := by rw [ha.out]; kernel_rfl
     rw [show us 0 = .int .i64 (n : Int) from d0] at q10
     exact sV (v := .bool false) hK rfl
    ·refine sF rfl rfl ?_
     intro us vals w3 a' ha hle hW hd hv K hK
     obtain ⟨d1, _⟩ := hd
     have q11 : a'.tmps[11]? = some (us 1) := by rw [ha.out]; kernel_rfl
     rw [show us 1 = .bool false from d1] at q11
     exact sV hK rfl
    ·refine stageOf_free rfl (fun us vals w3 a' ha hd => ?_) ?_
     ·obtain ⟨d2, _⟩ := hd
      have q : a'.tmps[12]? = some (us 2) := by rw [ha.out]; kernel_rfl
      rw [show us 2 = .bool false from d2] at q
      exact wanted_some rfl rfl q
     intro us vals w3 a' ha hle hW hd hv K hK
     have q4 : a'.tmps[4]? = some (.int .i64 (n : Int)) := by rw [ha.out]; kernel_rfl
     exact sV hK rfl
    ·refine stageOf_free rfl (fun us vals w3 a' ha hd => ?_) ?_
     ·obtain ⟨_, d2, _⟩ := hd
      have q : a'.tmps[12]? = some (us 2) := by rw [ha.out]; kernel_rfl
      rw [show us 2 = .bool false from d2] at q
      exact wanted_some rfl rfl q
     intro us vals w3 a' ha hle hW hd hv K hK
     obtain ⟨d3, _, _⟩ := hd
     have q13 : a'.tmps[13]? = some (us 3) := by rw [ha.out]; kernel_rfl
     rw [show us 3 = .int .i64 (n : Int) from d3] at q13
     exact sV (v := .bool false) hK rfl
    ·refine sF rfl rfl ?_
     intro us vals w3 a' ha hle hW hd hv K hK
     obtain ⟨d2, d4, _⟩ := hd
     have q12 : a'.tmps[12]? = some (us 2) := by rw [ha.out]; kernel_rfl
     rw [show us 2 = .bool false from d2] at q12
     have q14 : a'.tmps[14]? = some (us 4) := by rw [ha.out]; kernel_rfl
     rw [show us 4 = .bool false from d4] at q14
     exact sV (v := .bool false) hK rfl
    ·refine sF rfl rfl ?_
     intro us vals w3 a' ha hle hW hd hv K hK
     obtain ⟨d5, _, _⟩ := hd
     have q15 : a'.tmps[15]? = some (us 5) := by rw [ha.out]; kernel_rfl
     rw [show us 5 = .bool false from d5] at q15
     exact sV hK rfl
    ·refine stageOf_free rfl (fun us vals w3 a' ha hd => ?_) ?_
     ·obtain ⟨d6, _⟩ := hd
      have q : a'.tmps[16]? = some (us 6) := by rw [ha.out]; kernel_rfl
      rw [show us 6 = .bool false from d6] at q
      exact wanted_some rfl rfl q
     intro us vals w3 a' ha hle hW hd hv K hK
     have q0 : a'.tmps[0]? = some (.slice A n c) := by rw [ha.out]; kernel_rfl
     exact sV hK rfl
    ·refine stageOf_mem (t := 0) rfl ?_
     intro us vals w3 a' ha hle hW hd hv
     obtain ⟨d7, d6, _, _⟩ := hd
     obtain rfl := List.eq_nil_of_length_eq_zero (Nat.le_zero.1 (show vals.length ≤ 0 from Nat.le_of_eq hv))
     have qg : a'.tmps[16]? = some (us 6) := by rw [ha.out]; kernel_rfl
     rw [show us 6 = .bool false from d6] at qg
     refine ⟨wanted_some rfl rfl qg, fun K hK => ?_⟩
     have q17 : a'.tmps[17]? = some (us 7) := by rw [ha.out]; kernel_rfl
     rw [show us 7 = .slice A n c from d7] at q17
     refine step_call (f := 47) (args := #[.slice A n c]) (by go_simp) ?_
     refine (Read_any w3 B A n c b (hbK w3 hle) (Nat.le_trans hBz hle.size) (by omega)).mono ?_
     rintro e w4 ⟨g, A2, c2, rfl, hg, hd5, hG⟩
     exact ⟨_, rfl, hK _ _ (keepTy_grow _ _ hG) ⟨g, A2, n, c2, rfl, Nat.le_trans hle.size hg, hd5⟩⟩
    ·refine stageOf_mem (t := 1) rfl ?_
     intro us vals w3 a' ha hle hW hd hv
     obtain ⟨d8, _, d6, _⟩ := hd
     obtain ⟨x0, rfl⟩ := List.length_eq_one_iff.1 hv
     obtain rfl : us 8 = x0 := by have h0 : some x0 = some (us 8) := d8; injection h0 with h0; exact h0.symm
     have qg : a'.tmps[16]? = some (us 6) := by rw [ha.out]; kernel_rfl
     rw [show us 6 = .bool false from d6] at qg
     refine ⟨wanted_some rfl rfl qg, fun K hK => ?_⟩
     have q18 : a'.tmps[18]? = some (us 8) := by rw [ha.out]; kernel_rfl
     obtain ⟨g, A2, n2, c2, e8, hg, hd5⟩ := hW
     rw [e8] at q18
     refine step_call (f := 93) (args := #[.pointer (some ⟨g, 0, none⟩)]) (by go_simp) ?_
     have hn := RFixed_any w3 g A2 n2 c2 b false hd5
     rw [stOf_false, ← HS1.out] at hn
     refine hn.mono ?_
     rintro e w4 ⟨rfl, A3, n3, c3, l3, b3, hd3, hs3, hl3, hk3⟩
     exact ⟨_, rfl, hK _ _ (KeepTy.own1 hk3 hd5.cell hg) rfl⟩
    ·refine stageOf_free rfl (fun us vals w3 a' ha hd => ?_) ?_
     ·obtain ⟨_, d6, _⟩ := hd
      have q : a'.tmps[16]? = some (us 6) := by rw [ha.out]; kernel_rfl
      rw [show us 6 = .bool false from d6] at q
      exact wanted_some rfl rfl q
     intro us vals w3 a' ha hle hW hd hv K hK
     obtain ⟨d9, _, _⟩ := hd
     have q19 : a'.tmps[19]? = some (us 9) := by rw [ha.out]; kernel_rfl
     have e9 : us 9 = .int .u32 (S1 : Int) := getW.v1 hW d9
     rw [e9] at q19
     exact sV (v := .int .i64 (S1 : Int)) hK rfl
    ·refine stageOf_free rfl (fun us vals w3 a' ha hd => ?_) ?_
     ·obtain ⟨d6, _⟩ := hd
      have q : a'.tmps[16]? = some (us 6) := by rw [ha.out]; kernel_rfl
      rw [show us 6 = .bool false from d6] at q
      exact wanted_some rfl rfl q
     intro us vals w3 a' ha hle hW hd hv K hK
     have q4 : a'.tmps[4]? = some (.int .i64 (n : Int)) := by rw [ha.out]; kernel_rfl
     exact sV hK rfl
    ·refine stageOf_free rfl (fun us vals w3 a' ha hd => ?_) ?_
     ·obtain ⟨_, _, d6, _⟩ := hd
      have q : a'.tmps[16]? = some (us 6) := by rw [ha.out]; kernel_rfl
      rw [show us 6 = .bool false from d6] at q
      exact wanted_some rfl rfl q
     intro us vals w3 a' ha hle hW hd hv K hK
     obtain ⟨d10, d11, _, _⟩ := hd
     have q20 : a'.tmps[20]? = some (us 10) := by rw [ha.out]; kernel_rfl
     rw [show us 10 = .int .i64 (S1 : Int) from d10] at q20
     have q21 : a'.tmps[21]? = some (us 11) := by rw [ha.out]; kernel_rfl
     rw [show us 11 = .int .i64 (n : Int) from d11] at q21
     exact sV (v := .bool true) hK rfl
    ·refine sF rfl rfl ?_
     intro us vals w3 a' ha hle hW hd hv K hK
     obtain ⟨d6, d12, _⟩ := hd
     have q16 : a'.tmps[16]? = some (us 6) := by rw [ha.out]; kernel_rfl
     rw [show us 6 = .bool false from d6] at q16
     have q22 : a'.tmps[22]? = some (us 12) := by rw [ha.out]; kernel_rfl
     rw [show us 12 = .bool true from d12] at q22
     exact sV (v := .bool true) hK rfl
    ·refine sF rfl rfl ?_
     intro us vals w3 a' ha hle hW hd hv K hK
     obtain ⟨d13, _, _⟩ := hd
     have q23 : a'.tmps[23]? = some (us 13) := by rw [ha.out]; kernel_rfl
     rw [show us 13 = .bool true from d13] at q23
     exact sV hK rfl
    ·refine stageOf_skip rfl (fun us vals w3 a' ha hd => ?_) (fun _ => rfl)
     obtain ⟨d14, _⟩ := hd
     have q : a'.tmps[24]? = some (us 14) := by rw [ha.out]; kernel_rfl
     rw [show us 14 = .bool true from d14] at q
     exact wanted_other rfl rfl q
    ·refine stageOf_skip rfl (fun us vals w3 a' ha hd => ?_) (fun _ => rfl)
     obtain ⟨d14, _⟩ := hd
     have q : a'.tmps[24]? = some (us 14) := by rw [ha.out]; kernel_rfl
     rw [show us 14 = .bool true from d14] at q
     exact wanted_other rfl rfl q
    ·refine stageOf_skip rfl (fun us vals w3 a' ha hd => ?_) (fun _ => rfl)
     obtain ⟨_, d14, _⟩ := hd
     have q : a'.tmps[24]? = some (us 14) := by rw [ha.out]; kernel_rfl
     rw [show us 14 = .bool true from d14] at q
     exact wanted_other rfl rfl q
    ·refine stageOf_skip rfl (fun us vals w3 a' ha hd => ?_) (fun _ => rfl)
     obtain ⟨_, _, d14, _⟩ := hd
     have q : a'.tmps[24]? = some (us 14) := by rw [ha.out]; kernel_rfl
     rw [show us 14 = .bool true from d14] at q
     exact wanted_other rfl rfl q
    ·refine stageOf_skip rfl (fun us vals w3 a' ha hd => ?_) (fun _ => rfl)
     obtain ⟨_, d14, _, _⟩ := hd
     have q : a'.tmps[24]? = some (us 14) := by rw [ha.out]; kernel_rfl
     rw [show us 14 = .bool true from d14] at q
     exact wanted_other rfl rfl q
    ·refine stageOf_skip rfl (fun us vals w3 a' ha hd => ?_) (fun _ => rfl)
     obtain ⟨_, _, d14, _⟩ := hd
     have q : a'.tmps[24]? = some (us 14) := by rw [ha.out]; kernel_rfl
     rw [show us 14 = .bool true from d14] at q
     exact wanted_other rfl rfl q
    ·refine stageOf_skip rfl (fun us vals w3 a' ha hd => ?_) (fun _ => rfl)
     obtain ⟨d14, _⟩ := hd
     have q : a'.tmps[24]? = some (us 14) := by rw [ha.out]; kernel_rfl
     rw [show us 14 = .bool true from d14] at q
     exact wanted_other rfl rfl q
    ·refine stageOf_skip rfl (fun us vals w3 a' ha hd => ?_) (fun _ => rfl)
     obtain ⟨d14, _⟩ := hd
     have q : a'.tmps[24]? = some (us 14) := by rw [ha.out]; kernel_rfl
     rw [show us 14 = .bool true from d14] at q
     exact wanted_other rfl rfl q
    ·refine stageOf_skip rfl (fun us vals w3 a' ha hd => ?_) (fun _ => rfl)
     obtain ⟨_, d14, _⟩ := hd
     have q : a'.tmps[24]? = some (us 14) := by rw [ha.out]; kernel_rfl
     rw [show us 14 = .bool true from d14] at q
     exact wanted_other rfl rfl q
    ·refine stageOf_skip rfl (fun us vals w3 a' ha hd => ?_) (fun _ => rfl)
     obtain ⟨_, _, d14, _⟩ := hd
     have q : a'.tmps[24]? = some (us 14) := by rw [ha.out]; kernel_rfl
     rw [show us 14 = .bool true from d14] at q
     exact wanted_other rfl rfl q
    ·refine stageOf_skip rfl (fun us vals w3 a' ha hd => ?_) (fun _ => rfl)
     obtain ⟨_, d14, _⟩ := hd
     have q : a'.tmps[24]? = some (us 14) := by rw [ha.out]; kernel_rfl
     rw [show us 14 = .bool true from d14] at q
     exact wanted_other rfl rfl q
    ·refine stageOf_skip rfl (fun us vals w3 a' ha hd => ?_) (fun _ => rfl)
     obtain ⟨_, _, d14, _⟩ := hd
     have q : a'.tmps[24]? = some (us 14) := by rw [ha.out]; kernel_rfl
     rw [show us 14 = .bool true from d14] at q
     exact wanted_other rfl rfl q
    ·refine stageOf_skip rfl (fun us vals w3 a' ha hd => ?_) (fun _ => rfl)
     obtain ⟨_, _, d14, _⟩ := hd
     have q : a'.tmps[24]? = some (us 14) := by rw [ha.out]; kernel_rfl
     rw [show us 14 = .bool true from d14] at q
     exact wanted_other rfl rfl q
    ·refine sF rfl rfl ?_
     intro us vals w3 a' ha hle hW hd hv K hK
     obtain ⟨d14, d27, _⟩ := hd
     have q24 : a'.tmps[24]? = some (us 14) := by rw [ha.out]; kernel_rfl
     rw [show us 14 = .bool true from d14] at q24
     have q37 : a'.tmps[37]? = some (us 27) := by rw [ha.out]; kernel_rfl
     rw [show us 27 = undef from d27] at q37
     exact sV (v := .bool true) hK rfl
   ·intro us vals w3 hle hvl _ _ hf
    have h28 : us 28 = .bool true := hf 28 (by decide) rfl
    generalize ha2 : fills _ _ _ _ = a2
    obtain rfl : a2 = { tmps := #[.slice A n c, undef, .pointer (some ⟨w.heap.size, 0, none⟩), .pointer (some ⟨w.heap.size + 1, 0, none⟩), .int .i64 (n : Int), undef, undef, undef, .slice A n c, .int .i64 (n : Int), us 0, us 1, us 2, us 3, us 4, us 5, us 6, us 7, us 8, us 9, us 10, us 11, us 12, us 13, us 14, us 15, us 16, us 17, us 18, us 19, us 20, us 21, us 22, us 23, us 24, us 25, us 26, us 27, us 28, undef, undef, undef, undef, undef, undef, undef, undef, undef, undef, undef, undef, undef, undef, undef, undef, undef, undef, undef, undef, undef, undef, undef, undef, undef], defers := [] } := by rw [← ha2]; kernel_rfl
    clear ha2
    rw [h28]
    have hO3 := KeepTy.low hle hbO hbO.lt
    have hE3 := KeepTy.low hle hbE hbE.lt
    have hcO := hO3.cell 0
    have hcE := hE3.cell 0
    have hfO := hO3.frozen 0
    have hfE := hE3.frozen 0
    have hGw : Below w.heap.size w w3 := Below.trans hG0 (Below.mono (hle.below (Nat.le_refl _)) hG0.size)
    gi_wp2
    (try rw [Exit.noGoto_ret])
    have hO4 : Blk ((w3.setCell ⟨w.heap.size, 0, none⟩ (.slice none 0 0)).setCell ⟨w.heap.size + 1, 0, none⟩ (.int .i64 9)) w.heap.size 41 #[.slice none 0 0] := (hO3.set 0 (.slice none 0 0)).far (by simp) _
    have hE4 : Blk ((w3.setCell ⟨w.heap.size, 0, none⟩ (.slice none 0 0)).setCell ⟨w.heap.size + 1, 0, none⟩ (.int .i64 9)) (w.heap.size + 1) 29 #[.int .i64 9] := (hE3.far (p := ⟨w.heap.size, 0, none⟩) (by simp) (.slice none 0 0)).set 0 (.int .i64 9)
    have hc1 := hO4.cell 0
    have hc2 := hE4.cell 0
    exact ⟨_, results_cells2 rfl _ _ w.heap.size (w.heap.size + 1) (.slice none 0 0) (.int .i64 9) rfl rfl (by go_simp) (by go_simp), Or.inr ⟨hgb, rfl, Below.setCell (Below.setCell hGw (Nat.le_refl _) _) (Nat.le_succ _) _⟩⟩
end Go.Proofs.YtcimkoehcdfjdaaGreatDoor
