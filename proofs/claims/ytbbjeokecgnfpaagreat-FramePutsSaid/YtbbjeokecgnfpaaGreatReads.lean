/-
  The walks of wire's Read, Reader.OK, Reader.Left.
-/
import Derived.Test.YtbbjeokecgnfpaaGreatReader
namespace Go.Proofs.YtbbjeokecgnfpaaGreat
open Go.RowKit WireM

theorem own_ty {w1 : World} {B T : Nat} {A1 : Option Addr} {c1 N : Nat} {xs : List Value} (h : w1.ownsRow B T 1 (.slice A1 N c1) N xs) : ∀ ad, A1 = some ad → ∃ cs, w1.heap[ad.block]? = some (.cells cs T (0, 0)) := fun ad e => by
  rcases h.2 with ⟨h, _⟩ | ⟨g, cap, cur, h, _, hb, _⟩
  · injection h with h
    rw [h] at e
    cases e
  · injection h with h
    rw [h] at e
    injection e with e
    subst e
    exact ⟨_, hb⟩
/-- a reader at a block, whatever lies where -/
def RdAt (w : World) (g : Nat) (st : St) (len : Nat) (w' : World) : Prop := ∃ A n c l bad, Rd w' g A n c l bad ∧ stOf l bad = st ∧ l.length ≤ len ∧ Keep (Own1 g) w w'

set_option maxRecDepth 100000 in
set_option maxHeartbeats 2000000 in
theorem Read_any (w : World) (B : Nat) (A : Option Addr) (n c : Nat) (l : List UInt8) (hR : BytesAt w B A n l) (hB : B ≤ w.heap.size) (hn : n ≤ 140737488355328) :
    Calls Tryz.prog 38 #[.slice A n c] w fun e w' => ∃ g A' c', e = .returned (.pointer (some ⟨g, 0, none⟩)) ∧ w.heap.size ≤ g ∧ Rd w' g A' n c' l false ∧ Grow w w' := by
  have hlen := hR.len
  go_enter Tryz.func38, Tryz.ntmps38
  go_wp2_with fail
  refine (CloneBytes_any w B A n c l hR hB hn).mono ?_
  rintro e w1 ⟨r, rfl, hown, hg⟩
  obtain ⟨A1, c1, rfl, h1, h2, h3⟩ := own_reads hown
  have hz := hg.size
  have hap : ∀ ad, A1 = some ad → ad.block < w1.heap.size := fun ad e => by
    rcases hown.2 with ⟨h, _⟩ | ⟨g, cap, cur, h, _, hb, _⟩
    · injection h with h
      rw [h] at e
      cases e
    · injection h with h
      rw [h] at e
      injection e with e
      subst e
      exact (Array.getElem?_eq_some_iff.1 hb).1
  rw [hlen] at h1 h3
  rw [hlen]
  go_wp2
  go_ret
  refine ⟨w1.heap.size, A1, c1, rfl, hz, ⟨Blk.new _ _ _, (h3.below (Grow.alloc _ _)).more (by simp), fun ad e => by have := hap ad e; omega, h1, h2, fun ad e => ?_⟩, hg.trans (Grow.alloc _ _)⟩
  obtain ⟨cs, q⟩ := own_ty hown ad e
  exact ⟨cs, (Keep.alloc (S := fun _ => False) w1 _).obj q fun h => h⟩

set_option maxRecDepth 100000 in
theorem ROK_any (w : World) (g : Nat) (A : Option Addr) (n c : Nat) (l : List UInt8) (bad : Bool) (h : Rd w g A n c l bad) :
    Calls Tryz.prog 80 #[.pointer (some ⟨g, 0, none⟩)] w fun e w' => e = .returned (.bool (!bad)) ∧ w = w' := by
  have hc1 := h.cell.cell 1
  go_enter Tryz.func80, Tryz.ntmps80
  go_wp2
  go_ret
  exact ⟨rfl, rfl⟩
set_option maxRecDepth 100000 in
theorem RLeft_any (w : World) (g : Nat) (A : Option Addr) (n c : Nat) (l : List UInt8) (bad : Bool) (h : Rd w g A n c l bad) :
    Calls Tryz.prog 78 #[.pointer (some ⟨g, 0, none⟩)] w fun e w' => e = .returned (.int .i64 (left (stOf l bad) : Nat)) ∧ w = w' := by
  have hc1 := h.cell.cell 1
  have hc0 := h.cell.cell 0
  obtain ⟨r, hr⟩ : ∃ r, r = left (stOf l bad) := ⟨_, rfl⟩
  rw [← hr]
  have Hr := Lib.hid hr
  have hlen := h.len
  clear hr
  cases bad with
  | true =>
    go_enter Tryz.func78, Tryz.ntmps78
    go_wp2
    go_ret
    exact ⟨by rw [Hr.out]; rfl, rfl⟩
  | false =>
    go_enter Tryz.func78, Tryz.ntmps78
    go_wp2
    go_ret
    exact ⟨by rw [Hr.out, ← hlen]; rfl, rfl⟩
end Go.Proofs.YtbbjeokecgnfpaaGreat
