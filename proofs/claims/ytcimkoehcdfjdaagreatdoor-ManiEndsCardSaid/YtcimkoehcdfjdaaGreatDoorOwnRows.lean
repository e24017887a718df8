/-
  A row of slices that the call itself owns, and what its slices read as; rows are appended to it. No program is in sight, but for the numbers of types.
-/
import Derived.Test.YtcimkoehcdfjdaaGreatDoorBaseC
import Derived.Test.YtcimkoehcdfjdaaGreatDoorPutOne
namespace Go.Proofs.YtcimkoehcdfjdaaGreatDoor
open Go.RowKit

abbrev SliceV := Option Addr × Nat × Nat
def OffS (S : Nat → Prop) (vs : List SliceV) : Prop := ∀ x ∈ vs, 0 < x.2.1 → ∀ ad, x.1 = some ad → ¬ S ad.block
theorem OffS.append {S : Nat → Prop} {vs vs2 : List SliceV} (h : OffS S vs) (h2 : OffS S vs2) : OffS S (vs ++ vs2) := fun x hx hn ad e => by
 rcases List.mem_append.1 hx with hx | hx
 ·exact h x hx hn ad e
 ·exact h2 x hx hn ad e
section
variable {S : Nat → Prop} {w w1 : World}
theorem RowsOk.kept : ∀ {vs : List SliceV} {ls : List (List UInt8)}, RowsOk w vs ls → Keep S w w1 → OffS S vs → RowsOk w1 vs ls
 | [], [], h, _, _ => h
 | [], _ :: _, h, _, _ => h.elim
 | _ :: _, [], h, _, _ => h.elim
 | v :: vs, l :: ls, h, hk, ho => ⟨⟨h.1.1, h.1.2.1, ReadsAt.more (hk.reads' h.1.2.2 (Nat.le_refl _) fun hn ad e => ho v (by simp) hn ad e) hk.size⟩, RowsOk.kept h.2 hk fun x hx => ho x (by simp [hx])⟩
theorem RowsOk.grow {vs : List SliceV} {ls : List (List UInt8)} (h : RowsOk w vs ls) (hg : Grow w w1) : RowsOk w1 vs ls := h.kept (S := fun _ => False) (Keep.grow hg) fun _ _ _ _ _ h => h
theorem RowsOk.append : ∀ {vs vs2 : List SliceV} {ls ls2 : List (List UInt8)}, RowsOk w vs ls → RowsOk w vs2 ls2 → RowsOk w (vs ++ vs2) (ls ++ ls2)
 | [], _, [], _, _, h2 => h2
 | [], _, _ :: _, _, h, _ => h.elim
 | _ :: _, _, [], _, h, _ => h.elim
 | _ :: _, _, _ :: _, _, h, h2 => ⟨h.1, RowsOk.append h.2 h2⟩
theorem RowsOk.lt : ∀ {vs : List SliceV} {ls : List (List UInt8)}, RowsOk w vs ls → ∀ x ∈ vs, 0 < x.2.1 → ∀ ad, x.1 = some ad → ad.block < w.heap.size
 | [], [], _, x, hx, _, _, _ => by simp at hx
 | [], _ :: _, h, _, _, _, _, _ => h.elim
 | _ :: _, [], h, _, _, _, _, _ => h.elim
 | v :: vs, l :: ls, h, x, hx, hn, ad, e => by
  rcases List.mem_cons.1 hx with rfl | hx
  ·exact bytes_blk h.1.2.2 hn ad e
  ·exact RowsOk.lt h.2 x hx hn ad e
theorem RowsOk.len {vs : List SliceV} {ls : List (List UInt8)} (h : RowsOk w vs ls) : vs.length = ls.length := h.get.1
end

def RowsOwn (B : Nat) (w : World) (v : Value) (ls : List (List UInt8)) : Prop :=
 ∃ vs : List SliceV, w.ownsRow B 28 1 v ls.length (vs.map sliceOf) ∧ RowsOk w vs ls ∧ OffS (fun k => v.ownBlock = some k) vs
section
variable {B : Nat} {w w1 w2 : World} {v v' : Value} {ls ls2 : List (List UInt8)}
theorem RowsOwn.nil (B : Nat) (w : World) : RowsOwn B w (.slice none 0 0) [] := ⟨[], World.ownsRow_nil _ _ _ _, trivial, fun _ h => by simp at h⟩
theorem RowsOwn.kept (h : RowsOwn B w v ls) {S : Nat → Prop} (hk : Keep S w w1) (h1 : ∀ k, v.ownBlock = some k → ¬ S k) (h2 : ∀ k, k < w.heap.size → ¬ S k) : RowsOwn B w1 v ls := by
 obtain ⟨vs, ho, hr, ha⟩ := h
 exact ⟨vs, hk.own ho h1, hr.kept hk fun x hx hn ad e => h2 _ (hr.lt x hx hn ad e), ha⟩
theorem RowsOwn.grow (h : RowsOwn B w v ls) (hg : Grow w w1) : RowsOwn B w1 v ls := h.kept (S := fun _ => False) (Keep.grow hg) (fun _ _ h => h) (fun _ _ h => h)
theorem RowsOwn.rows (h : RowsOwn B w v ls) : ∃ A c, v = .slice A ls.length c ∧ ls.length ≤ c ∧ c ≤ maxLen ∧ RowsAt w w.heap.size A ls.length ls := by
 obtain ⟨vs, ho, hr, ha⟩ := h
 obtain ⟨A, c, rfl, h1, h2, h3⟩ := own_reads ho
 obtain ⟨h4, h5⟩ := hr.get
 refine ⟨A, c, rfl, h1, h2, rfl, fun hn => ?_⟩
 obtain ⟨b, off, e, hb, hc⟩ := h3.2 hn
 refine ⟨b, off, e, hb, fun j l hl => ?_⟩
 obtain ⟨x, hx, q1, q2, q3⟩ := h5 j l hl
 exact ⟨x.1, x.2.1, x.2.2, hc j (sliceOf x) (by rw [List.getElem?_map, hx]; rfl), q1, q2, q3⟩
theorem RowsOwn.snoc {vs vs2 : List SliceV} (hok : RowsOk w vs ls) (hap : OffS (fun k => v.ownBlock = some k) vs) (h2 : RowsOk w vs2 ls2) (hap2 : OffS (fun k => v.ownBlock = some k) vs2)
  (hown : w2.ownsRow B 28 1 v' (ls.length + ls2.length) (vs.map sliceOf ++ vs2.map sliceOf)) (hg : w.grownBy w2 v.ownBlock) (hat : v'.ownBlock = v.ownBlock ∨ v'.ownBlock = some w.heap.size) : RowsOwn B w2 v' (ls ++ ls2) := by
 have hk := Keep.grown hg
 have hboth := hok.append h2
 have hap3 := hap.append hap2
 refine ⟨vs ++ vs2, by rw [List.length_append, List.map_append]; exact hown, hboth.kept hk hap3, fun x hx hn ad e e2 => ?_⟩
 rcases hat with q | q
 ·exact hap3 x hx hn ad e (by rw [← q]; exact e2)
 ·have := hboth.lt x hx hn ad e
  rw [q] at e2
  injection e2 with e2
  omega
end

def rowsW (B : Nat) (v : Value) (ls : List (List UInt8)) (w0 : World) (ls2 : List (List UInt8)) : List Value → World → Prop
 | [], w => RowsOwn B w v ls ∧ Keep (fun k => v.ownBlock = some k) w0 w
 | [x], w => RowsOwn B w x (ls ++ ls2) ∧ Keep (fun k => v.ownBlock = some k) w0 w
 | [_, x], w => RowsOwn B w x (ls ++ ls2) ∧ Keep (fun k => v.ownBlock = some k) w0 w
 | _, _ => False
theorem rowsW.grow {B : Nat} {v : Value} {ls ls2 : List (List UInt8)} {w0 : World} : ∀ (vals : List Value) (w w2 : World), Grow w w2 → rowsW B v ls w0 ls2 vals w → rowsW B v ls w0 ls2 vals w2
 | [], _, _, hg, h => ⟨h.1.grow hg, h.2.trans' (Keep.grow hg)⟩
 | [_], _, _, hg, h => ⟨h.1.grow hg, h.2.trans' (Keep.grow hg)⟩
 | [_, _], _, _, hg, h => ⟨h.1.grow hg, h.2.trans' (Keep.grow hg)⟩
 | _ :: _ :: _ :: _, _, _, _, h => h

theorem Keep.toGrow {w w1 : World} (h : Keep (fun _ => False) w w1) : Grow w w1 := h.below (fun _ h => h.elim) (Nat.le_refl _)
def FactOn.newBytes {S : Nat → Prop} (B0 : Nat) (hS : ∀ k, S k → k < B0) (l : List UInt8) : FactOn (Keep S) :=
 ⟨fun u w => ∃ x : SliceV, u = sliceOf x ∧ x.2.1 ≤ x.2.2 ∧ x.2.2 ≤ maxLen ∧ BytesAt w w.heap.size x.1 x.2.1 l ∧ ∀ ad, x.1 = some ad → B0 ≤ ad.block,
  fun _ _ _ hk ⟨x, h1, h2, h3, h4, h5⟩ => ⟨x, h1, h2, h3, ReadsAt.more (hk.reads h4 (Nat.le_refl _) fun ad e hs => by have := hS _ hs; have := h5 ad e; omega) hk.size, h5⟩⟩
theorem newBytes_own {w : World} {B0 base n : Nat} {r : Value} {l : List UInt8} (h : w.ownsRow base 5 1 r n (l.map b8)) (hb : B0 ≤ base) :
  ∃ x : SliceV, r = sliceOf x ∧ x.2.1 ≤ x.2.2 ∧ x.2.2 ≤ maxLen ∧ BytesAt w w.heap.size x.1 x.2.1 l ∧ ∀ ad, x.1 = some ad → B0 ≤ ad.block := by
 rcases h.2 with ⟨rfl, rfl⟩ | ⟨g, cap, cur, rfl, hb2, hg, hnc, hcm, _⟩
 ·exact ⟨(none, 0, 0), rfl, Nat.le_refl _, Nat.zero_le _, ⟨h.1, fun h0 => absurd h0 (Nat.lt_irrefl 0)⟩, fun ad e => by cases e⟩
 ·exact ⟨(some ⟨g, 0, none⟩, n, cap), rfl, hnc, hcm, ReadsAt.of_own h, fun ad e => by injection e with e; subst e; exact Nat.le_trans hb hb2⟩
def FactOn.newRows {S : Nat → Prop} (B0 : Nat) (hS : ∀ k, S k → k < B0) (ls : List (List UInt8)) : FactOn (Keep S) :=
 ⟨fun u w => ∃ (m : Nat) (vs : List SliceV), u = .slice (some ⟨m, 0, none⟩) ls.length ls.length ∧ B0 ≤ m ∧ Blk w m 28 (vs.map sliceOf).toArray ∧ RowsOk w vs ls ∧ OffS S vs,
  fun _ _ _ hk ⟨m, vs, h1, h2, h3, h4, h5⟩ => ⟨m, vs, h1, h2, hk.blk h3 (fun hs => by have := hS m hs; omega), h4.kept hk h5, h5⟩⟩
theorem Blk.readsAll {w : World} {m t : Nat} {cs : List Value} (h : Blk w m t cs.toArray) : ReadsAt w (m + 1) 1 (some ⟨m, 0, none⟩) cs.length cs :=
 ⟨by simp, fun _ => ⟨m, 0, rfl, by omega, fun j u hu => by
  rw [Nat.zero_add, h.cell]
  simpa using hu⟩⟩
theorem slice_one : ∀ (vs : List SliceV), ∀ u ∈ vs.map sliceOf, u.oneCell' = true := fun vs u hu => by
 obtain ⟨x, _, rfl⟩ := List.mem_map.1 hu
 rfl
end Go.Proofs.YtcimkoehcdfjdaaGreatDoor
