/-
  Cursors in memory: what they are, whatever they are made over; what becomes of some of them when one is moved.
-/
import Derived.Test.YtamdejidkgnaeaaBaseC
import Derived.Test.YtamdejidkgnaeaaCurMath
namespace Go.Proofs.Ytamdejidkgnaeaa
open Go.RowKit CurM
set_option linter.unusedVariables false

/-- it fits into 64 bits -/
def W64 (x : Int) : Prop := -9223372036854775808 ≤ x ∧ x ≤ 9223372036854775807
/-- a cursor: its value, its rest, the blocks that it reads and writes -/
structure Kid where
  v : Value
  l : List Int
  f : Nat → Prop
/-- the slice .slice A n c holds the values vs, in a block of which own holds -/
structure VecAt (w : World) (own : Nat → Prop) (A : Option Addr) (n c : Nat) (vs : List Value) : Prop where
  len : vs.length = n
  cap : n ≤ c
  top : c ≤ maxLen
  at_ : 0 < n → ∃ b off, A = some ⟨b, off, none⟩ ∧ own b ∧ b < w.heap.size ∧ ∀ j v, vs[j]? = some v → w.cell? ⟨b, off + j, none⟩ = some v
theorem VecAt.kept {w w' : World} {own own' S : Nat → Prop} {A : Option Addr} {n c : Nat} {vs : List Value} (h : VecAt w own A n c vs) (hk : Keep S w w') (hS : ∀ j, own j → j < w.heap.size → ¬ S j) (ho : ∀ j, own j → j < w.heap.size → own' j) : VecAt w' own' A n c vs :=
  ⟨h.len, h.cap, h.top, fun hn => by
    obtain ⟨b, off, e, hb, hlt, hc⟩ := h.at_ hn
    exact ⟨b, off, e, ho b hb hlt, Nat.lt_of_lt_of_le hlt hk.size, fun j v hv => (hk.cell (p := ⟨b, off + j, none⟩) hlt (hS b hb hlt)).trans (hc j v hv)⟩⟩
/-- the cursors of a row: each by itself, none over another one -/
structure KidsAt (K : World → Value → List Int → (Nat → Prop) → Prop) (w : World) (F : Nat → Prop) (ks : List Kid) : Prop where
  each : ∀ k ∈ ks, K w k.v k.l k.f
  sub : ∀ k ∈ ks, ∀ j, k.f j → F j
  apart : ∀ (i j : Nat) (a b : Kid), ks[i]? = some a → ks[j]? = some b → i ≠ j → ∀ x, a.f x → ¬ b.f x

inductive CurStep (K : World → Value → List Int → (Nat → Prop) → Prop) (w : World) (F : Nat → Prop) : Value → List Int → Prop
  | nil : CurStep K w F (.pointer none) []
  | row (g r : Nat) (A : Option Addr) (n c : Nat) (L : List Int) (hg : Blk w g 82 #[.iface 78 (.pointer (some ⟨r, 0, none⟩))]) (hr : Blk w r 77 #[.slice A n c]) (fg : F g) (fr : F r) (hn : n ≤ 140737488355328) (hv : VecAt w F A n c (L.map i64v)) :
      CurStep K w F (.pointer (some ⟨g, 0, none⟩)) L
  | span (g r : Nat) (a b : Int) (hg : Blk w g 82 #[.iface 119 (.pointer (some ⟨r, 0, none⟩))]) (hr : Blk w r 121 #[.int .i64 a, .int .i64 b]) (fg : F g) (fr : F r) (ha : W64 a) (hb : W64 b) :
      CurStep K w F (.pointer (some ⟨g, 0, none⟩)) (spanL a b)
  | meet (g : Nat) (A : Option Addr) (n c : Nat) (ks : List Kid) (hg : Blk w g 82 #[.iface 83 (.slice A n c)]) (fg : F g) (gk : ∀ k ∈ ks, ¬ k.f g) (hv : VecAt w (fun j => F j ∧ ∀ k ∈ ks, ¬ k.f j) A n c (ks.map (·.v))) (hk : KidsAt K w F ks) :
      CurStep K w F (.pointer (some ⟨g, 0, none⟩)) (meetL (ks.map (·.l)))
structure CurAt (K : World → Value → List Int → (Nat → Prop) → Prop) (w : World) (v : Value) (L : List Int) (F : Nat → Prop) : Prop where
  step : CurStep K w F v L
  up : Up L
  wide : ∀ x ∈ L, W64 x
  lt : ∀ j, F j → j < w.heap.size
/-- v is a cursor whose rest is L, over others at most d deep; F: the blocks that it reads and writes -/
def Cur : Nat → World → Value → List Int → (Nat → Prop) → Prop
  | 0 => fun _ _ _ _ => False
  | d + 1 => CurAt (Cur d)

section
variable {d : Nat} {w w' w0 : World} {v : Value} {L L' : List Int} {F S : Nat → Prop} {ks ks0 : List Kid}
theorem Cur.pos (h : Cur d w v L F) : ∃ e, d = e + 1 := by
  cases d with
  | zero => exact h.elim
  | succ e => exact ⟨e, rfl⟩
theorem Cur.up (h : Cur d w v L F) : Up L := by
  obtain ⟨e, rfl⟩ := h.pos
  exact CurAt.up h
theorem Cur.wide (h : Cur d w v L F) : ∀ x ∈ L, W64 x := by
  obtain ⟨e, rfl⟩ := h.pos
  exact CurAt.wide h
theorem Cur.lt (h : Cur d w v L F) : ∀ j, F j → j < w.heap.size := by
  obtain ⟨e, rfl⟩ := h.pos
  exact CurAt.lt h
theorem KidsAt.kept {K : World → Value → List Int → (Nat → Prop) → Prop} (h : KidsAt K w F ks) (hK : ∀ k ∈ ks, K w k.v k.l k.f → K w' k.v k.l k.f) : KidsAt K w' F ks :=
  ⟨fun k hk => hK k hk (h.each k hk), h.sub, h.apart⟩
theorem Cur.kept : ∀ {d : Nat} {w w' : World} {v : Value} {L : List Int} {F S : Nat → Prop}, Cur d w v L F → Keep S w w' → (∀ j, F j → ¬ S j) → Cur d w' v L F
  | 0, _, _, _, _, _, _, h, _, _ => h
  | d + 1, w, w', v, L, F, S, h, hk, hS => by
    refine ⟨?_, CurAt.up h, CurAt.wide h, fun j hj => Nat.lt_of_lt_of_le (CurAt.lt h j hj) hk.size⟩
    cases CurAt.step h with
    | nil => exact .nil
    | row g r A n c L hg hr fg fr hn hv => exact .row g r A n c L (hk.blk hg (hS g fg)) (hk.blk hr (hS r fr)) fg fr hn (hv.kept hk (fun j hj _ => hS j hj) (fun j hj _ => hj))
    | span g r a b hg hr fg fr ha hb => exact .span g r a b (hk.blk hg (hS g fg)) (hk.blk hr (hS r fr)) fg fr ha hb
    | meet g A n c ks hg fg gk hv hki => exact .meet g A n c ks (hk.blk hg (hS g fg)) fg gk (hv.kept hk (fun j hj _ => hS j hj.1) (fun j hj _ => hj)) (hki.kept fun k hm hc => Cur.kept hc hk fun j hj => hS j (hki.sub k hm j hj))
theorem Cur.grow (h : Cur d w v L F) (hg : Grow w w') : Cur d w' v L F := h.kept (S := fun _ => False) (Keep.grow hg) fun _ _ => id
/-- what becomes of a cursor that is moved: its rest is L' -/
def CurTo (d : Nat) (w : World) (v : Value) (L' : List Int) (F : Nat → Prop) (w' : World) : Prop := ∃ F', Cur d w' v L' F' ∧ Keep F w w' ∧ ∀ j, F' j → F j ∨ w.heap.size ≤ j
theorem CurTo.refl (h : Cur d w v L F) : CurTo d w v L F w := ⟨F, h, Keep.refl _ _, fun _ => Or.inl⟩
theorem CurTo.trans {w1 w2 : World} {L2 : List Int} {F1 : Nat → Prop} (k1 : Keep F w w1) (f1 : ∀ j, F1 j → F j ∨ w.heap.size ≤ j) (h2 : CurTo d w1 v L2 F1 w2) : CurTo d w v L2 F w2 := by
  obtain ⟨F2, c2, k2, f2⟩ := h2
  refine ⟨F2, c2, k1.trans k2 f1, fun j hj => ?_⟩
  rcases f2 j hj with h | h
  · exact f1 j h
  · exact Or.inr (Nat.le_trans k1.size h)
theorem CurTo.grow {w1 : World} (hg : Grow w w1) (h : CurTo d w1 v L' F w') : CurTo d w v L' F w' := CurTo.trans (Keep.grow hg) (fun _ => Or.inl) h
theorem CurTo.more {w1 : World} (h : CurTo d w v L' F w1) (hg : Grow w1 w') : CurTo d w v L' F w' := by
  obtain ⟨F', c, k, f⟩ := h
  exact ⟨F', c.grow hg, k.trans (Keep.grow (S := fun _ => False) hg) fun _ h => h.elim, f⟩

/-- what becomes of a row of cursors: ks0 in w0 are ks in w -/
structure KidsTo (d : Nat) (w0 : World) (ks0 : List Kid) (w : World) (ks : List Kid) : Prop where
  each : ∀ k ∈ ks, Cur d w k.v k.l k.f
  apart : ∀ (i j : Nat) (a b : Kid), ks[i]? = some a → ks[j]? = some b → i ≠ j → ∀ x, a.f x → ¬ b.f x
  vals : ks.map (·.v) = ks0.map (·.v)
  keep : Keep (fun j => ∃ k ∈ ks0, k.f j) w0 w
  from_ : ∀ k ∈ ks, ∀ j, k.f j → (∃ k0 ∈ ks0, k0.f j) ∨ w0.heap.size ≤ j
theorem KidsTo.refl (h : KidsAt (Cur d) w F ks) : KidsTo d w ks w ks := ⟨h.each, h.apart, rfl, Keep.refl _ _, fun k hk j hj => Or.inl ⟨k, hk, hj⟩⟩
theorem KidsTo.ups (h : KidsTo d w0 ks0 w ks) : ∀ l ∈ ks.map (·.l), Up l := fun l hl => by
  obtain ⟨k, hk, rfl⟩ := List.mem_map.1 hl
  exact (h.each k hk).up
theorem KidsTo.grow (h : KidsTo d w0 ks0 w ks) (hg : Grow w w') : KidsTo d w0 ks0 w' ks :=
  ⟨fun k hk => (h.each k hk).grow hg, h.apart, h.vals, h.keep.trans (Keep.grow (S := fun _ => False) hg) fun _ h => h.elim, h.from_⟩
theorem KidsTo.step (h : KidsTo d w0 ks0 w ks) {i : Nat} {k : Kid} (hi : ks[i]? = some k) (hc : CurTo d w k.v L' k.f w') : ∃ k', k'.v = k.v ∧ k'.l = L' ∧ KidsTo d w0 ks0 w' (ks.set i k') := by
  obtain ⟨F', c, hk, hf⟩ := hc
  have hlt := (List.getElem?_eq_some_iff.1 hi).1
  have hmem := List.mem_of_getElem? hi
  have other : ∀ (j : Nat) (m : Kid), (ks.set i ⟨k.v, L', F'⟩)[j]? = some m → j ≠ i → ks[j]? = some m := fun j m hj hne => by rwa [List.getElem?_set_ne (Ne.symm hne)] at hj
  have self : ∀ (m : Kid), (ks.set i ⟨k.v, L', F'⟩)[i]? = some m → m = ⟨k.v, L', F'⟩ := fun m hm => by
    rw [List.getElem?_set_self hlt] at hm
    injection hm with hm
    exact hm.symm
  refine ⟨⟨k.v, L', F'⟩, rfl, rfl, ⟨fun m hm => ?_, fun a b x y ha hb hne z hz hz2 => ?_, ?_, ?_, fun m hm j hj => ?_⟩⟩
  · obtain ⟨j, hj⟩ := List.getElem?_of_mem hm
    by_cases e : j = i
    · subst e
      rw [self m hj]
      exact c
    · have hj' := other j m hj e
      exact (h.each m (List.mem_of_getElem? hj')).kept hk fun x hx hx2 => h.apart j i m k hj' hi e x hx hx2
  · by_cases e1 : a = i
    · subst e1
      rw [self x ha] at hz
      have hb' := other b y hb (Ne.symm hne)
      rcases hf z hz with h1 | h1
      · exact h.apart a b k y hi hb' hne z h1 hz2
      · have := (h.each y (List.mem_of_getElem? hb')).lt z hz2
        omega
    · have ha' := other a x ha e1
      by_cases e2 : b = i
      · subst e2
        rw [self y hb] at hz2
        rcases hf z hz2 with h1 | h1
        · exact h.apart a b x k ha' hi hne z hz h1
        · have := (h.each x (List.mem_of_getElem? ha')).lt z hz
          omega
      · exact h.apart a b x y ha' (other b y hb e2) hne z hz hz2
  · rw [List.map_set, ← h.vals]
    refine List.ext_getElem? fun j => ?_
    by_cases e : j = i
    · subst e
      rw [List.getElem?_set_self (by simpa using hlt), List.getElem?_map, hi]
      rfl
    · rw [List.getElem?_set_ne (Ne.symm e)]
  · exact h.keep.trans hk fun j hj => h.from_ k hmem j hj
  · rcases List.mem_or_eq_of_mem_set hm with e | e
    · exact h.from_ m e j hj
    · rw [e] at hj
      rcases hf j hj with h1 | h1
      · exact h.from_ k hmem j h1
      · exact Or.inr (Nat.le_trans h.keep.size h1)
theorem kids_set {i : Nat} {k : Kid} : (ks.set i k).map (·.l) = (ks.map (·.l)).set i k.l := List.map_set

/-- the blocks behind some moves -/
def FromF (F : Nat → Prop) (ks : List Kid) : Nat → Prop := fun j => F j ∨ ∃ k ∈ ks, k.f j
section
variable {g : Nat} {A : Option Addr} {n c : Nat}
theorem KidsTo.not (h : KidsTo d w0 ks0 w ks) (hlt : ∀ j, F j → j < w0.heap.size) (j : Nat) (hj : F j) (h0 : ∀ k ∈ ks0, ¬ k.f j) : ∀ k ∈ ks, ¬ k.f j := fun k hm hf => by
  rcases h.from_ k hm j hf with ⟨k0, h1, h2⟩ | h1
  · exact h0 k0 h1 h2
  · have := hlt j hj
    omega
theorem KidsTo.keepF (h : KidsTo d w0 ks0 w ks) (hk : KidsAt (Cur d) w0 F ks0) : Keep F w0 w := h.keep.mono fun j ⟨k, h1, h2⟩ => Or.inl (hk.sub k h1 j h2)
theorem KidsTo.fromF (h : KidsTo d w0 ks0 w ks) (hk : KidsAt (Cur d) w0 F ks0) (j : Nat) (hj : FromF F ks j) : F j ∨ w0.heap.size ≤ j := by
  rcases hj with hj | ⟨k, h1, h2⟩
  · exact Or.inl hj
  · rcases h.from_ k h1 j h2 with ⟨k0, h3, h4⟩ | h3
    · exact Or.inl (hk.sub k0 h3 j h4)
    · exact Or.inr h3
theorem KidsTo.kids (h : KidsTo d w0 ks0 w ks) : KidsAt (Cur d) w (FromF F ks) ks := ⟨h.each, fun k hm j hj => Or.inr ⟨k, hm, hj⟩, h.apart⟩
theorem KidsTo.ltF (h : KidsTo d w0 ks0 w ks) (hlt : ∀ j, F j → j < w0.heap.size) (j : Nat) (hj : FromF F ks j) : j < w.heap.size := by
  rcases hj with hj | ⟨k, h1, h2⟩
  · exact Nat.lt_of_lt_of_le (hlt j hj) h.keep.size
  · exact (h.each k h1).lt j h2
theorem KidsTo.vec (h : KidsTo d w0 ks0 w ks) (hlt : ∀ j, F j → j < w0.heap.size) (hv : VecAt w0 (fun j => F j ∧ ∀ k ∈ ks0, ¬ k.f j) A n c (ks0.map (·.v))) : VecAt w (fun j => FromF F ks j ∧ ∀ k ∈ ks, ¬ k.f j) A n c (ks.map (·.v)) := by
  rw [h.vals]
  exact hv.kept h.keep (fun j hj _ ⟨k, h1, h2⟩ => hj.2 k h1 h2) fun j hj _ => ⟨Or.inl hj.1, h.not hlt j hj.1 hj.2⟩
theorem meet_close (fg : F g) (hlt : ∀ j, F j → j < w0.heap.size) (gk : ∀ k ∈ ks0, ¬ k.f g) (hk : KidsAt (Cur d) w0 F ks0) (h : KidsTo d w0 ks0 w ks) (hg : Blk w0 g 82 #[.iface 83 (.slice A n c)]) (hv : VecAt w0 (fun j => F j ∧ ∀ k ∈ ks0, ¬ k.f j) A n c (ks0.map (·.v))) (hw : ∀ x ∈ meetL (ks.map (·.l)), W64 x) :
    CurTo (d + 1) w0 (.pointer (some ⟨g, 0, none⟩)) (meetL (ks.map (·.l))) F w :=
  ⟨FromF F ks, ⟨.meet g A n c ks (h.keep.blk hg fun ⟨k, h1, h2⟩ => gk k h1 h2) (Or.inl fg) (h.not hlt g fg gk) (h.vec hlt hv) (h.kids), up_meet h.ups, hw, h.ltF hlt⟩, h.keepF hk, h.fromF hk⟩
end
end
end Go.Proofs.Ytamdejidkgnaeaa
