/-
  The walks of wire's Writer.Bytes (slices.Clone) and of the document's.
-/
import Derived.Test.YtcimkoehcdfjdaaGreatDoorWNumber
import Derived.Test.YtcimkoehcdfjdaaGreatDoorBaseA
import Derived.Lib.SliceRun
namespace Go.Proofs.YtcimkoehcdfjdaaGreatDoor
open Go.RowKit WireM

theorem Wr.reads {Tt : TypeId} {w : World} {B g : Nat} {v : Value} {l : List UInt8} {bad : Bool} (h : Wr Tt w B g v l bad) : ∃ A c, v = .slice A l.length c ∧ l.length ≤ c ∧ c ≤ maxLen ∧ BytesAt w w.heap.size A l.length l := own_reads h.own

set_option maxRecDepth 100000 in
theorem CloneBytes_any (w : World) (B : Nat) (A : Option Addr) (n c : Nat) (l : List UInt8) (hR : BytesAt w B A n l) (hB : B ≤ w.heap.size) (hn : n ≤ 140737488355328) :
  Calls Tryz.prog 67 #[.slice A n c] w fun e w' => ∃ r, e = .returned r ∧ w'.ownsRow w.heap.size 5 1 r l.length (l.map b8) ∧ Grow w w' := by
 have bytesTy : AppTy Tryz.prog 28 5 (.int .u8 0) 1 1 := AppTy.mk' Tryz.underlying28 (by kernel_rfl) rfl (by decide)
 have hlen := hR.len
 have heq := fun W a n c => Lib.run_eql_slice_nil (P := Tryz.prog) W 28 5 a n c 0 0 Tryz.underlying28
 cases A with
 | none =>
  have hn0 : n = 0 := by
   rcases Nat.eq_zero_or_pos n with h | h
   ·exact h
   ·obtain ⟨b, off, h1, _⟩ := hR.at_ h
    cases h1
  subst hn0
  obtain rfl := List.eq_nil_of_length_eq_zero hlen
  go_enter Tryz.func67, Tryz.ntmps67
  go_wp2
  go_ret
  exact ⟨_, rfl, World.ownsRow_nil _ _ _ _, Grow.refl _⟩
 | some p =>
  go_enter Tryz.func67, Tryz.ntmps67
  go_wp2_with (at_builtin; refine wpList_append_reads _ rfl (.tmp 5) (.tmp 6) rfl bytesTy (v := .slice (some ⟨w.heap.size, 0, none⟩) 0 0) rfl (World.ownsRow_made w #[] 0 (Nat.le_refl _) (by decide) rfl) rfl ((hR.more hB).below (Grow.alloc _ _)) (b8_one l) (by simp only [maxLen]; omega) (by omega) (by simp) ?_; intro v' w2 hown hgrow hat)
  go_ret
  exact ⟨_, rfl, by rw [hlen]; simpa using hown, ((Below.refl w.heap.size w).alloc (Nat.le_refl _) _).grown hgrow (by simp) (fun k hk => by simp [Value.ownBlock] at hk; omega)⟩

set_option maxRecDepth 100000 in
theorem WBytes_any (w : World) (B g : Nat) (v : Value) (l : List UInt8) (bad : Bool) (hW : Wr 67 w B g v l bad) (hl : l.length ≤ 140737488355328) :
  Calls Tryz.prog 36 #[.pointer (some ⟨g, 0, none⟩)] w fun e w' => ∃ r, e = .returned r ∧ w'.ownsRow w.heap.size 5 1 r (told (stOf l bad)).length ((told (stOf l bad)).map b8) ∧ Grow w w' := by
 have hc1 := hW.cell.cell 1
 have hc0 := hW.cell.cell 0
 obtain ⟨A, c, rfl, hmc, hcm, hR⟩ := hW.reads
 cases bad with
 | true =>
  go_enter Tryz.func36, Tryz.ntmps36
  go_wp2
  go_ret
  exact ⟨_, rfl, World.ownsRow_nil _ _ _ _, Grow.refl _⟩
 | false =>
  go_enter Tryz.func36, Tryz.ntmps36
  go_wp2_with fail
  refine (CloneBytes_any w _ A _ c l hR (Nat.le_refl _) hl).mono ?_
  rintro e w1 ⟨r, rfl, hown, hg⟩
  go_wp2
  go_ret
  exact ⟨r, rfl, hown, hg⟩

set_option maxRecDepth 100000 in
theorem vBytes_any (w : World) (B g : Nat) (v : Value) (l : List UInt8) (bad : Bool) (hW : Wr 55 w B g v l bad) (hl : l.length ≤ 140737488355328) :
  Calls Tryz.prog 25 #[.pointer (some ⟨g, 0, none⟩)] w fun e w' => ∃ r, e = .returned r ∧ w'.ownsRow w.heap.size 5 1 r (told (stOf l bad)).length ((told (stOf l bad)).map b8) ∧ Grow w w' := by
 have bytesTy : AppTy Tryz.prog 28 5 (.int .u8 0) 1 1 := AppTy.mk' Tryz.underlying28 (by kernel_rfl) rfl (by decide)
 have hc1 := hW.cell.cell 1
 have hc0 := hW.cell.cell 0
 have hgl := hW.cell.lt
 obtain ⟨A, c, rfl, hmc, hcm, hR⟩ := hW.reads
 cases bad with
 | true =>
  go_enter Tryz.func25, Tryz.ntmps25
  go_wp2
  go_ret
  exact ⟨_, rfl, World.ownsRow_nil _ _ _ _, Grow.refl _⟩
 | false =>
  go_enter Tryz.func25, Tryz.ntmps25
  go_wp2_with (at_builtin; refine wpList_append_reads _ rfl (.tmp 7) (.tmp 11) rfl bytesTy (v := .slice (some ⟨w.heap.size, 0, none⟩) 0 0) rfl (World.ownsRow_made w #[] 0 (Nat.le_refl _) (by decide) rfl) rfl (hR.below (Grow.alloc _ _)) (b8_one l) (by simp only [maxLen]; omega) (by omega) (by simp) ?_; intro v' w2 hown hgrow hat)
  go_ret
  exact ⟨_, rfl, by simpa [told, stOf] using hown, ((Below.refl w.heap.size w).alloc (Nat.le_refl _) _).grown hgrow (by simp) (fun k hk => by simp [Value.ownBlock] at hk; omega)⟩
end Go.Proofs.YtcimkoehcdfjdaaGreatDoor
