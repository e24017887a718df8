/-
  The document's reader in memory: bytes, a place, and a mark that says whether it has failed. The walks of next and Left.
-/
import Derived.BigQuiet
import Derived.Deep.QuietTactic
import Derived.Test.YtbbjeokecgnfpaaGreatBaseG
namespace Go.Proofs.YtbbjeokecgnfpaaGreat
open Go.RowKit WireM

/-- at block g lies the document's reader: of the bytes L, at have been gone through -/
structure Rdd (w : World) (g : Nat) (A : Option Addr) (n c : Nat) (L : List UInt8) (at_ : Nat) (bad : Bool) : Prop where
  cell : Blk w g 96 #[.slice A n c, .int .i64 (at_ : Int), .bool bad]
  reads : BytesAt w w.heap.size A n L
  apart : 0 < n → ∀ ad, A = some ad → ad.block ≠ g
  nc : n ≤ c
  cm : c ≤ maxLen
  le : at_ ≤ n
/-- its state -/
def ddSt (L : List UInt8) (at_ : Nat) (bad : Bool) : St := if bad then none else some (L.drop at_)
def RddAt (w : World) (g : Nat) (A : Option Addr) (n c : Nat) (L : List UInt8) (st : St) (w' : World) : Prop := ∃ at_ bad, Rdd w' g A n c L at_ bad ∧ ddSt L at_ bad = st ∧ Keep (Own1 g) w w'
section
variable {w w1 : World} {g : Nat} {A : Option Addr} {n c : Nat} {L : List UInt8} {at_ : Nat} {bad : Bool}
theorem Rdd.len (h : Rdd w g A n c L at_ bad) : L.length = n := h.reads.len
theorem Rdd.kept (h : Rdd w g A n c L at_ bad) {S : Nat → Prop} (hk : Keep S w w1) (h1 : ¬ S g) (h2 : 0 < n → ∀ ad, A = some ad → ¬ S ad.block) : Rdd w1 g A n c L at_ bad :=
  ⟨hk.blk h.cell h1, ReadsAt.more (hk.reads' h.reads (Nat.le_refl _) h2) hk.size, h.apart, h.nc, h.cm, h.le⟩
theorem Rdd.grow (h : Rdd w g A n c L at_ bad) (hg : Grow w w1) : Rdd w1 g A n c L at_ bad := h.kept (S := fun _ => False) (Keep.grow hg) (fun h => h) (fun _ _ _ h => h)
theorem Rdd.mark (h : Rdd w g A n c L at_ bad) (b : Bool) : Rdd (w.setCell ⟨g, 2, none⟩ (.bool b)) g A n c L at_ b ∧ Keep (Own1 g) w (w.setCell ⟨g, 2, none⟩ (.bool b)) := by
  have hk : Keep (Own1 g) w (w.setCell ⟨g, 2, none⟩ (.bool b)) := Keep.setCell w ⟨g, 2, none⟩ (.bool b)
  refine ⟨⟨?_, ReadsAt.more (hk.reads' h.reads (Nat.le_refl _) fun h0 ad e => h.apart h0 ad e) hk.size, h.apart, h.nc, h.cm, h.le⟩, hk⟩
  have := h.cell.set 2 (.bool b)
  simpa using this
theorem Rdd.go (h : Rdd w g A n c L at_ bad) (k : Nat) (hk : k ≤ n) : Rdd (w.setCell ⟨g, 1, none⟩ (.int .i64 (k : Int))) g A n c L k bad ∧ Keep (Own1 g) w (w.setCell ⟨g, 1, none⟩ (.int .i64 (k : Int))) := by
  have hkp : Keep (Own1 g) w (w.setCell ⟨g, 1, none⟩ (.int .i64 (k : Int))) := Keep.setCell w ⟨g, 1, none⟩ _
  refine ⟨⟨?_, ReadsAt.more (hkp.reads' h.reads (Nat.le_refl _) fun h0 ad e => h.apart h0 ad e) hkp.size, h.apart, h.nc, h.cm, hk⟩, hkp⟩
  have := h.cell.set 1 (.int .i64 (k : Int))
  simpa using this
end
/-- one byte more -/
def nextOf : St → Nat × St
  | some (b :: l) => (b.toNat, some l)
  | _ => (0, none)

set_option maxRecDepth 100000 in
set_option maxHeartbeats 2000000 in
theorem dnext_any (w : World) (g : Nat) (A : Option Addr) (n c : Nat) (L : List UInt8) (at_ : Nat) (bad : Bool) (h : Rdd w g A n c L at_ bad) :
    Calls Tryz.prog 81 #[.pointer (some ⟨g, 0, none⟩)] w fun e w' => e = .returned (.int .i64 ((nextOf (ddSt L at_ bad)).1 : Nat)) ∧ RddAt w g A n c L (nextOf (ddSt L at_ bad)).2 w' := by
  have hc0 := h.cell.cell 0
  have hc1 := h.cell.cell 1
  have hc2 := h.cell.cell 2
  have hf := h.cell.frozen
  have hcm := h.cm
  have hnc := h.nc
  have hle := h.le
  unfold maxLen at hcm
  obtain ⟨r, hr⟩ : ∃ r, r = nextOf (ddSt L at_ bad) := ⟨_, rfl⟩
  rw [← hr]
  have Hr := Lib.hid hr
  have Hf := Lib.hid hf
  clear hr hf
  cases bad with
  | true =>
    have hm := h.mark true
    have HM := Lib.hid hm
    have hf2 := Hf.out 2
    clear h hm
    go_enter Tryz.func81, Tryz.ntmps81
    go_wp2_with fail
    go_quiet (fail)
    go_wp2
    go_ret
    refine ⟨ret_int (by rw [Hr.out]; rfl), at_, true, HM.out.1.grow (Grow.drewN _ _), by rw [Hr.out]; rfl, HM.out.2.trans' (Keep.grow (Grow.drewN _ _))⟩
  | false =>
    by_cases hlt : at_ < n
    · have hlen := h.len
      obtain ⟨x, hx⟩ : ∃ x, L[at_]? = some x := ⟨_, List.getElem?_eq_getElem (by omega)⟩
      obtain ⟨b, off, rfl, hb, hcl⟩ := h.reads.at_ (by omega)
      have hcx := hcl at_ x hx
      have hbg := h.apart (by omega) _ rfl
      have hd1 : ddSt L at_ false = some (x :: L.drop (at_ + 1)) := by
        have e : L.drop at_ = x :: L.drop (at_ + 1) := by
          obtain ⟨h1, h2⟩ := List.getElem?_eq_some_iff.1 hx
          rw [List.drop_eq_getElem_cons h1, h2]
        show some (L.drop at_) = _
        rw [e]
      have hgo : ∀ q, Rdd ((w.drewN q).setCell ⟨g, 1, none⟩ (.int .i64 ((at_ : Int) + 1))) g (some ⟨b, off, none⟩) n c L (at_ + 1) false ∧ Keep (Own1 g) w ((w.drewN q).setCell ⟨g, 1, none⟩ (.int .i64 ((at_ : Int) + 1))) := fun q => ⟨((h.grow (Grow.drewN w q)).go (at_ + 1) (by omega)).1, (Keep.grow (Grow.drewN w q)).trans' ((h.grow (Grow.drewN w q)).go (at_ + 1) (by omega)).2⟩
      have Hgo := Lib.hid hgo
      have Hd1 := Lib.hid hd1
      have hf1 := Hf.out 1
      have hx256 : x.toNat < 256 := x.toNat_lt
      have d1 : decide ((n : Int) ≤ (at_ : Int)) = false := decide_eq_false (by omega)
      have d2 : decide (n ≤ at_) = false := decide_eq_false (by omega)
      have w1 : IntKind.i64.wrap ((at_ : Int) + 1 - 1) = (at_ : Int) := by rw [show (at_ : Int) + 1 - 1 = (at_ : Int) by omega]; exact IntWalk.i64_in _ (by omega)
      clear h hcl hx hgo hd1
      go_enter Tryz.func81, Tryz.ntmps81
      go_wp2_with fail
      go_quiet (fail)
      go_wp2_with fail
      go_quiet (fail)
      go_wp2
      go_ret
      refine ⟨ret_int (by rw [Hr.out, Hd1.out]; rfl), at_ + 1, false, (Hgo.out _).1.grow (Grow.drewN _ _), by rw [Hr.out, Hd1.out]; rfl, (Hgo.out _).2.trans' (Keep.grow (Grow.drewN _ _))⟩
    · obtain rfl : at_ = n := by omega
      have hm := h.mark true
      have HM := Lib.hid hm
      have hf2 := Hf.out 2
      have hdr : ddSt L at_ false = some [] := by
        show some (L.drop at_) = _
        rw [List.drop_eq_nil_iff.2 (by rw [h.len]; exact Nat.le_refl _)]
      have Hdr := Lib.hid hdr
      clear h hm hdr
      go_enter Tryz.func81, Tryz.ntmps81
      go_wp2_with fail
      go_quiet (fail)
      go_wp2
      go_ret
      refine ⟨ret_int (by rw [Hr.out, Hdr.out]; rfl), at_, true, HM.out.1.grow (Grow.drewN _ _), by rw [Hr.out, Hdr.out]; rfl, HM.out.2.trans' (Keep.grow (Grow.drewN _ _))⟩

theorem dd_left (L : List UInt8) (at_ : Nat) : left (ddSt L at_ false) = L.length - at_ := by
  show (L.drop at_).length = _
  exact List.length_drop
end Go.Proofs.YtbbjeokecgnfpaaGreat
