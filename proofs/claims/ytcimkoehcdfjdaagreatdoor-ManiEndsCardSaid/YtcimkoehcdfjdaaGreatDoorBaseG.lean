/-
  A reader in memory: a struct of a row of bytes that are left, and a mark that says whether it has failed. The walks of take and must.
  The walks of wire's Read, Reader.OK, Reader.Left.
-/
import Derived.Test.YtcimkoehcdfjdaaGreatDoorWBytes
namespace Go.Proofs.YtcimkoehcdfjdaaGreatDoor
open Go.RowKit WireM

structure Rd (w : World) (g : Nat) (A : Option Addr) (n c : Nat) (l : List UInt8) (bad : Bool) : Prop where
 cell : Blk w g 161 #[.slice A n c, .bool bad]
 reads : BytesAt w w.heap.size A n l
 apart : ∀ ad, A = some ad → ad.block < g
 nc : n ≤ c
 cm : c ≤ maxLen
 ty : ∀ ad, A = some ad → ∃ cs, w.heap[ad.block]? = some (.cells cs 5 (0, 0))
theorem Rd.len {w : World} {g : Nat} {A : Option Addr} {n c : Nat} {l : List UInt8} {bad : Bool} (h : Rd w g A n c l bad) : l.length = n := h.reads.len
def Own1 (g : Nat) : Nat → Prop := fun k => k = g
theorem Rd.kept {w w1 : World} {g : Nat} {A : Option Addr} {n c : Nat} {l : List UInt8} {bad : Bool} (h : Rd w g A n c l bad) {S : Nat → Prop} (hk : Keep S w w1) (h1 : ¬ S g) (h2 : ∀ ad, A = some ad → ¬ S ad.block) : Rd w1 g A n c l bad :=
 ⟨hk.blk h.cell h1, ReadsAt.more (hk.reads h.reads (Nat.le_refl _) h2) hk.size, h.apart, h.nc, h.cm, fun ad e => by
  obtain ⟨cs, q⟩ := h.ty ad e
  exact ⟨cs, hk.obj q (h2 ad e)⟩⟩
theorem Rd.grow {w w1 : World} {g : Nat} {A : Option Addr} {n c : Nat} {l : List UInt8} {bad : Bool} (h : Rd w g A n c l bad) (hg : Grow w w1) : Rd w1 g A n c l bad := h.kept (S := fun _ => False) (Keep.grow hg) (fun h => h) (fun _ _ h => h)
theorem Rd.mark {w : World} {g : Nat} {A : Option Addr} {n c : Nat} {l : List UInt8} {bad : Bool} (h : Rd w g A n c l bad) (b : Bool) : Rd (w.setCell ⟨g, 1, none⟩ (.bool b)) g A n c l b ∧ Keep (Own1 g) w (w.setCell ⟨g, 1, none⟩ (.bool b)) := by
 have hk : Keep (Own1 g) w (w.setCell ⟨g, 1, none⟩ (.bool b)) := Keep.setCell w ⟨g, 1, none⟩ (.bool b)
 refine ⟨⟨?_, ReadsAt.more (hk.reads h.reads (Nat.le_refl _) fun ad e => Nat.ne_of_lt (h.apart ad e)) hk.size, h.apart, h.nc, h.cm, fun ad e => ?_⟩, hk⟩
 ·have := h.cell.set 1 (.bool b)
  simpa using this
 ·obtain ⟨cs, q⟩ := h.ty ad e
  exact ⟨cs, hk.obj q (Nat.ne_of_lt (h.apart ad e))⟩
theorem cutA_block {A : Option Addr} {c k s : Nat} {ad : Addr} (h : cutA A c k s = some ad) : ∃ a, A = some a ∧ ad.block = a.block := by
 unfold cutA at h
 split at h
 ·exact ⟨ad, h, rfl⟩
 ·cases A with
  | none => cases h
  | some a =>
   simp only [Option.map_some] at h
   injection h with h
   refine ⟨a, rfl, ?_⟩
   rw [← h]
   unfold Addr.add
   split <;> rfl
theorem Rd.cut {w : World} {g : Nat} {A : Option Addr} {n c : Nat} {l : List UInt8} {bad : Bool} (h : Rd w g A n c l bad) (k : Nat) (hk : k ≤ n) :
  Rd (w.setCell ⟨g, 0, none⟩ (.slice (cutA A c k 1) (n - k) (c - k))) g (cutA A c k 1) (n - k) (c - k) (l.drop k) bad ∧ Keep (Own1 g) w (w.setCell ⟨g, 0, none⟩ (.slice (cutA A c k 1) (n - k) (c - k))) := by
 have hkp : Keep (Own1 g) w (w.setCell ⟨g, 0, none⟩ (.slice (cutA A c k 1) (n - k) (c - k))) := Keep.setCell w ⟨g, 0, none⟩ _
 have hap : ∀ ad, cutA A c k 1 = some ad → ad.block < g := fun ad e => by
  obtain ⟨a, h1, h2⟩ := cutA_block e
  rw [h2]
  exact h.apart a h1
 refine ⟨⟨?_, ReadsAt.more (hkp.reads (h.reads.tail k hk h.nc) (Nat.le_refl _) fun ad e => Nat.ne_of_lt (hap ad e)) hkp.size, hap, by have := h.nc; omega, by have := h.cm; omega, fun ad e => ?_⟩, hkp⟩
 ·have := h.cell.set 0 (.slice (cutA A c k 1) (n - k) (c - k))
  simpa using this
 ·obtain ⟨a, h1, h2⟩ := cutA_block e
  obtain ⟨cs, q⟩ := h.ty a h1
  exact ⟨cs, by rw [h2]; exact hkp.obj q (Nat.ne_of_lt (h.apart a h1))⟩

set_option maxRecDepth 100000 in
set_option maxHeartbeats 2000000 in
theorem must_any (w : World) (g : Nat) (A : Option Addr) (n c : Nat) (l : List UInt8) (bad is : Bool) (h : Rd w g A n c l bad) :
  Calls Tryz.prog 96 #[.pointer (some ⟨g, 0, none⟩), .bool is] w fun e w' => e = .returned (.tuple #[]) ∧ Rd w' g A n c l (bad || !is) ∧ Keep (Own1 g) w w' := by
 obtain ⟨nb, hnb⟩ : ∃ nb, nb = (bad || !is) := ⟨_, rfl⟩
 rw [← hnb]
 have Hnb := Lib.hid hnb
 clear hnb
 have hc1 := h.cell.cell 1
 have hf1 := h.cell.frozen 1
 have hm := h.mark nb
 go_enter Tryz.func96, Tryz.ntmps96
 cases bad with
 | true =>
  obtain rfl : nb = true := by rw [Hnb.out]; rfl
  go_wp2
  (try simp only [Exit.inBlock, Exit.then])
  exact Go.Great.bodyPost_end0 rfl rfl ⟨rfl, hm⟩
 | false =>
  cases is with
  | true =>
   obtain rfl : nb = false := by rw [Hnb.out]; rfl
   go_wp2
   (try simp only [Exit.inBlock, Exit.then])
   exact Go.Great.bodyPost_end0 rfl rfl ⟨rfl, hm⟩
  | false =>
   obtain rfl : nb = true := by rw [Hnb.out]; rfl
   go_wp2
   (try simp only [Exit.inBlock, Exit.then])
   exact Go.Great.bodyPost_end0 rfl rfl ⟨rfl, hm⟩

set_option maxRecDepth 100000 in
set_option maxHeartbeats 2000000 in
theorem take_bad (w : World) (g : Nat) (A : Option Addr) (n c : Nat) (l : List UInt8) (bad : Bool) (k : Nat) (h : Rd w g A n c l bad) (hb : bad = true ∨ n < k) :
  Calls Tryz.prog 95 #[.pointer (some ⟨g, 0, none⟩), .int .i64 (k : Int)] w fun e w' => e = .returned (.slice none 0 0) ∧ Rd w' g A n c l true ∧ Keep (Own1 g) w w' := by
 have hc0 := h.cell.cell 0
 have hc1 := h.cell.cell 1
 have hf1 := h.cell.frozen 1
 have hm := h.mark true
 have h2 : bad = true ∨ (bad = false ∧ (n : Int) < (k : Int)) := by
  cases bad with
  | true => exact Or.inl rfl
  | false => exact Or.inr ⟨rfl, by rcases hb with h | h; cases h; omega⟩
 clear hb
 rcases h2 with rfl | ⟨rfl, hnk⟩
 ·go_enter Tryz.func95, Tryz.ntmps95
  go_wp2
  go_ret
  exact ⟨rfl, hm⟩
 ·go_enter Tryz.func95, Tryz.ntmps95
  go_wp2
  go_ret
  exact ⟨rfl, hm⟩
set_option maxRecDepth 100000 in
set_option maxHeartbeats 2000000 in
theorem take_any (w : World) (g : Nat) (A : Option Addr) (n c : Nat) (l : List UInt8) (k : Nat) (h : Rd w g A n c l false) (hk : k ≤ n) :
  Calls Tryz.prog 95 #[.pointer (some ⟨g, 0, none⟩), .int .i64 (k : Int)] w fun e w' => e = .returned (.slice A k c) ∧ Rd w' g (cutA A c k 1) (n - k) (c - k) (l.drop k) false ∧ Keep (Own1 g) w w' ∧ BytesAt w' w'.heap.size A k (l.take k) := by
 have bytesTy : AppTy Tryz.prog 28 5 (.int .u8 0) 1 1 := AppTy.mk' Tryz.underlying28 (by kernel_rfl) rfl (by decide)
 have hc0 := h.cell.cell 0
 have hc1 := h.cell.cell 1
 have hf0 := h.cell.frozen 0
 have hf1 := h.cell.frozen 1
 have hnc := h.nc
 have hkn : (k : Int) ≤ (n : Int) := by omega
 have hcut1 := fun W => run_cut_head bytesTy A n c k .i64 (k : Int) rfl (by omega) W
 have hcut2 := fun W => run_cut_tail bytesTy A n c k .i64 (k : Int) rfl hk W
 have hm := (h.mark false).1.cut k hk
 have hkp := (h.mark false).2.trans' hm.2
 have hr : BytesAt ((w.setCell ⟨g, 1, none⟩ (.bool false)).setCell ⟨g, 0, none⟩ (.slice (cutA A c k 1) (n - k) (c - k))) _ A k (l.take k) := BytesAt.head (ReadsAt.more (hkp.reads h.reads (Nat.le_refl _) fun ad e => Nat.ne_of_lt (h.apart ad e)) hkp.size) k hk
 go_enter Tryz.func95, Tryz.ntmps95
 go_wp2
 go_ret
 exact ⟨rfl, hm.1, hkp, hr⟩
end Go.Proofs.YtcimkoehcdfjdaaGreatDoor

namespace Go.Proofs.YtcimkoehcdfjdaaGreatDoor
open Go.RowKit WireM

theorem own_ty {w1 : World} {B T : Nat} {A1 : Option Addr} {c1 N : Nat} {xs : List Value} (h : w1.ownsRow B T 1 (.slice A1 N c1) N xs) : ∀ ad, A1 = some ad → ∃ cs, w1.heap[ad.block]? = some (.cells cs T (0, 0)) := fun ad e => by
 rcases h.2 with ⟨h, _⟩ | ⟨g, cap, cur, h, _, hb, _⟩
 ·injection h with h
  rw [h] at e
  cases e
 ·injection h with h
  rw [h] at e
  injection e with e
  subst e
  exact ⟨_, hb⟩
def RdAt (w : World) (g : Nat) (st : St) (len : Nat) (w' : World) : Prop := ∃ A n c l bad, Rd w' g A n c l bad ∧ stOf l bad = st ∧ l.length ≤ len ∧ Keep (Own1 g) w w'

set_option maxRecDepth 100000 in
set_option maxHeartbeats 2000000 in
theorem Read_any (w : World) (B : Nat) (A : Option Addr) (n c : Nat) (l : List UInt8) (hR : BytesAt w B A n l) (hB : B ≤ w.heap.size) (hn : n ≤ 140737488355328) :
  Calls Tryz.prog 47 #[.slice A n c] w fun e w' => ∃ g A' c', e = .returned (.pointer (some ⟨g, 0, none⟩)) ∧ w.heap.size ≤ g ∧ Rd w' g A' n c' l false ∧ Grow w w' := by
 have hlen := hR.len
 go_enter Tryz.func47, Tryz.ntmps47
 go_wp2_with fail
 refine (CloneBytes_any w B A n c l hR hB hn).mono ?_
 rintro e w1 ⟨r, rfl, hown, hg⟩
 obtain ⟨A1, c1, rfl, h1, h2, h3⟩ := own_reads hown
 have hz := hg.size
 have hap : ∀ ad, A1 = some ad → ad.block < w1.heap.size := fun ad e => by
  rcases hown.2 with ⟨h, _⟩ | ⟨g, cap, cur, h, _, hb, _⟩
  ·injection h with h
   rw [h] at e
   cases e
  ·injection h with h
   rw [h] at e
   injection e with e
   subst e
   exact (Array.getElem?_eq_some_iff.1 hb).1
 rw [hlen] at h1 h3
 rw [hlen]
 go_wp2
 go_ret
 refine ⟨w1.heap.size, A1, c1, rfl, hz, ⟨Blk.new _ _ _, (h3.below (Grow.alloc _ _)).more (by simp), fun ad e => by have := hap ad e; omega, h1, h2, fun ad e => ?_⟩, hg.trans (Grow.alloc _ _)⟩
 obtain ⟨cs, q⟩ := own_ty hown ad e
 exact ⟨cs, (Keep.alloc (S := fun _ => False) w1 _).obj q fun h => h⟩

set_option maxRecDepth 100000 in
theorem ROK_any (w : World) (g : Nat) (A : Option Addr) (n c : Nat) (l : List UInt8) (bad : Bool) (h : Rd w g A n c l bad) :
  Calls Tryz.prog 50 #[.pointer (some ⟨g, 0, none⟩)] w fun e w' => e = .returned (.bool (!bad)) ∧ w = w' := by
 have hc1 := h.cell.cell 1
 go_enter Tryz.func50, Tryz.ntmps50
 go_wp2
 go_ret
 exact ⟨rfl, rfl⟩
set_option maxRecDepth 100000 in
theorem RLeft_any (w : World) (g : Nat) (A : Option Addr) (n c : Nat) (l : List UInt8) (bad : Bool) (h : Rd w g A n c l bad) :
  Calls Tryz.prog 51 #[.pointer (some ⟨g, 0, none⟩)] w fun e w' => e = .returned (.int .i64 (left (stOf l bad) : Nat)) ∧ w = w' := by
 have hc1 := h.cell.cell 1
 have hc0 := h.cell.cell 0
 obtain ⟨r, hr⟩ : ∃ r, r = left (stOf l bad) := ⟨_, rfl⟩
 rw [← hr]
 have Hr := Lib.hid hr
 have hlen := h.len
 clear hr
 cases bad with
 | true =>
  go_enter Tryz.func51, Tryz.ntmps51
  go_wp2
  go_ret
  exact ⟨by rw [Hr.out]; rfl, rfl⟩
 | false =>
  go_enter Tryz.func51, Tryz.ntmps51
  go_wp2
  go_ret
  exact ⟨by rw [Hr.out, ← hlen]; rfl, rfl⟩
end Go.Proofs.YtcimkoehcdfjdaaGreatDoor
