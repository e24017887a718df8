/-
  A cursor and the document's rest beside it, in memory; the kids of a tree as they are built.
-/
import Derived.Test.YthjnggclemhgkaaCurTree
import Derived.Test.YthjnggclemhgkaaCurMake
import Derived.Test.YthjnggclemhgkaaCurRef
import Derived.Test.YthjnggclemhgkaaCurPlaces
namespace Go.Proofs.Ythjnggclemhgkaa
open Go.RowKit CurM
set_option linter.unusedVariables false

theorem Grow.blk {w w1 : World} (hg : Grow w w1) {k t : Nat} {cs : Array Value} (h : Blk w k t cs) : Blk w1 k t cs := h.below hg h.lt
/-- a cursor whose rest is L, and a row that says so; both lie in blocks from B on, the row in none of the cursor's -/
def PairAt (D B : Nat) (w : World) (v r : Value) (L : List Int) : Prop :=
  ∃ (F : Nat → Prop) (A : Option Addr) (n c : Nat), Cur D w v L F ∧ (∀ j, F j → B ≤ j) ∧ r = .slice A n c ∧ VecAt w (fun j => B ≤ j ∧ ¬ F j) A n c (L.map i64v)
section
variable {D B B' : Nat} {w w' : World} {v r : Value} {L : List Int} {F F' : Nat → Prop}
theorem PairAt.grow (h : PairAt D B w v r L) (hg : Grow w w') : PairAt D B w' v r L := by
  obtain ⟨F, A, n, c, h1, h2, h3, h4⟩ := h
  exact ⟨F, A, n, c, h1.grow hg, h2, h3, h4.kept (S := fun _ => False) (Keep.grow hg) (fun _ _ _ h => h) fun _ h _ => h⟩
theorem PairAt.low (h : PairAt D B w v r L) (hB : B' ≤ B) : PairAt D B' w v r L := by
  obtain ⟨F, A, n, c, h1, h2, h3, h4⟩ := h
  exact ⟨F, A, n, c, h1, fun j hj => Nat.le_trans hB (h2 j hj), h3, h4.kept (S := fun _ => False) (Keep.refl _ _) (fun _ _ _ h => h) fun _ h _ => ⟨Nat.le_trans hB h.1, h.2⟩⟩
theorem PairAt.vals (h : PairAt D B w v r L) : ∃ p A c, v = .pointer p ∧ r = .slice A L.length c := by
  obtain ⟨F, A, n, c, h1, h2, h3, h4⟩ := h
  obtain ⟨p, hp⟩ := h1.isPtr
  have := h4.len
  rw [List.length_map] at this
  exact ⟨p, A, c, hp, by rw [h3, this]⟩
/-- a row that was just made, as a vector -/
theorem own_vec {e n : Nat} {xs : List Value} (h : w.ownsRow B e 1 r n xs) : ∃ A c, r = .slice A n c ∧ VecAt w (fun j => B ≤ j) A n c xs := by
  obtain ⟨A, c, rfl, h1, h2, h3⟩ := own_reads h
  refine ⟨A, c, rfl, by simpa using h3.1, h1, h2, fun hn => ?_⟩
  obtain ⟨g, cap, e1, hg1, hg2, -, -⟩ := own_slice h hn
  obtain ⟨b, off, e, hb, hc⟩ := h3.2 hn
  refine ⟨b, off, e, ?_, hb, hc⟩
  injection e1 with e1
  rw [e1] at e
  injection e with e
  injection e with e
  rw [← e]
  exact hg1
/-- a cursor that was made, then the row -/
theorem PairAt.mk (h : Cur D w v L F) (hF : ∀ j, F j → B ≤ j) (hg : Grow w w') (ho : w'.ownsRow w.heap.size 3 1 r L.length (L.map i64v)) (hB : B ≤ w.heap.size) : PairAt D B w' v r L := by
  obtain ⟨A, c, rfl, hv⟩ := own_vec ho
  exact ⟨F, A, _, c, h.grow hg, hF, rfl, hv.kept (S := fun _ => False) (Keep.refl _ _) (fun _ _ _ h => h) fun j hj _ => ⟨Nat.le_trans hB hj, fun hf => by have := h.lt j hf; omega⟩⟩
theorem PairAt.nil (B : Nat) (w : World) : PairAt (D + 1) B w (.pointer none) (.slice none 0 0) [] :=
  ⟨fun _ => False, none, 0, 0, ⟨.nil, up_nil, by simp, fun _ h => h.elim⟩, fun _ h => h.elim, rfl, rfl, Nat.le_refl _, Nat.zero_le _, fun h => absurd h (by omega)⟩
theorem VecAt.ints {own : Nat → Prop} {A : Option Addr} {n c : Nat} (h : VecAt w own A n c (L.map i64v)) : IntsAt w w.heap.size A n L := ⟨by have := VecAt.len h; simpa using this, fun hn => by
  obtain ⟨b, off, e, hb, hlt, hc⟩ := VecAt.at_ h hn
  exact ⟨b, off, e, hlt, fun j u hu => hc j u hu⟩⟩
end

/-- the kids that are built: k4 cursors in the row v4, k5 rests in the row v5 -/
structure BInv (d B : Nat) (kids : List TreeM) (k4 k5 : Nat) (v4 v5 : Value) (ks : List Kid) (rv : List Value) (W : World) : Prop where
  len4 : ks.length = k4
  len5 : rv.length = k5
  ls : ks.map (·.l) = (kids.take k4).map (restOf d)
  each : ∀ q ∈ ks, Cur d W q.v q.l q.f
  ge : ∀ q ∈ ks, ∀ j, q.f j → B ≤ j
  apart : ∀ (i j : Nat) (a b : Kid), ks[i]? = some a → ks[j]? = some b → i ≠ j → ∀ x, a.f x → ¬ b.f x
  own4 : W.ownsRow B 29 1 v4 k4 (ks.map (·.v))
  own5 : W.ownsRow B 22 1 v5 k5 rv
  off4 : ∀ q ∈ ks, ∀ j, q.f j → v4.ownBlock ≠ some j
  off5 : ∀ q ∈ ks, ∀ j, q.f j → v5.ownBlock ≠ some j
  rows : ∀ (i : Nat) (u : Value), rv[i]? = some u → ∃ A n c t, u = .slice A n c ∧ kids[i]? = some t ∧ VecAt W (fun j => B ≤ j ∧ (∀ q ∈ ks, ¬ q.f j) ∧ v4.ownBlock ≠ some j ∧ v5.ownBlock ≠ some j) A n c ((restOf d t).map i64v)
section
variable {d B : Nat} {kids : List TreeM} {k4 k5 : Nat} {v4 v5 : Value} {ks : List Kid} {rv : List Value} {W W2 W3 W4 : World}
theorem BInv.grow (h : BInv d B kids k4 k5 v4 v5 ks rv W) (hg : Grow W W2) : BInv d B kids k4 k5 v4 v5 ks rv W2 :=
  ⟨h.len4, h.len5, h.ls, fun q hq => (h.each q hq).grow hg, h.ge, h.apart, own_below h.own4 hg, own_below h.own5 hg, h.off4, h.off5, fun i u hu => by
    obtain ⟨A, n, c, t, h1, h2, h3⟩ := h.rows i u hu
    exact ⟨A, n, c, t, h1, h2, h3.kept (S := fun _ => False) (Keep.grow hg) (fun _ _ _ h => h) fun _ h _ => h⟩⟩
theorem BInv.ne (h : BInv d B kids k4 k5 v4 v5 ks rv W) {b : Nat} (hb : v4.ownBlock = some b) : v5.ownBlock ≠ some b := fun h5 => by
  obtain ⟨c1, q1⟩ := own_obj h.own4 hb
  obtain ⟨c2, q2⟩ := own_obj h.own5 h5
  rw [q1] at q2
  injection q2 with q2
  injection q2 with _ q2
  exact absurd q2 (by decide)
theorem BInv.start (d B : Nat) (kids : List TreeM) (W : World) : BInv d B kids 0 0 (.slice none 0 0) (.slice none 0 0) [] [] W :=
  ⟨rfl, rfl, rfl, fun _ h => by simp at h, fun _ h => by simp at h, fun _ _ _ _ h => by simp at h, World.ownsRow_nil _ _ _ _, World.ownsRow_nil _ _ _ _, fun _ h => by simp at h, fun _ h => by simp at h, fun _ _ h => by simp at h⟩
/-- one more cursor -/
theorem BInv.push4 (h : BInv d B kids k4 k5 v4 v5 ks rv W) {t : TreeM} {v r v4' : Value} (ht : kids[k4]? = some t) (hg : Grow W W2) (hB : B ≤ W.heap.size) (hp : PairAt d W.heap.size W2 v r (restOf d t)) (hg3 : Grow W2 W3)
    (ho : W4.ownsRow B 29 1 v4' (k4 + 1) (ks.map (·.v) ++ [v])) (hgr : W3.grownBy W4 v4.ownBlock) (hat : v4'.ownBlock = v4.ownBlock ∨ v4'.ownBlock = some W3.heap.size) :
    ∃ F, BInv d B kids (k4 + 1) k5 v4' v5 (ks ++ [⟨v, restOf d t, F⟩]) rv W4 ∧ ∃ A n c, r = .slice A n c ∧ VecAt W4 (fun j => B ≤ j ∧ (∀ q ∈ ks ++ [⟨v, restOf d t, F⟩], ¬ q.f j) ∧ v4'.ownBlock ≠ some j ∧ v5.ownBlock ≠ some j) A n c ((restOf d t).map i64v) := by
  obtain ⟨F, A, n, c, c1, hF, rfl, hv⟩ := hp
  have hg23 : Grow W W3 := hg.trans hg3
  have hk : Keep (fun j => v4.ownBlock = some j) W2 W4 := (Keep.grow hg3).trans' (Keep.grown hgr)
  have hk0 : Keep (fun j => v4.ownBlock = some j) W W4 := (Keep.grow hg).trans' hk
  have b4 : ∀ j, v4.ownBlock = some j → j < W.heap.size := fun j hj => (h.own4.lt j hj).2
  have b5 : ∀ j, v5.ownBlock = some j → j < W.heap.size := fun j hj => (h.own5.lt j hj).2
  have b4' : ∀ j, j < W.heap.size → v4.ownBlock ≠ some j → v4'.ownBlock ≠ some j := fun j hj hne e => by
    rcases hat with h1 | h1
    · rw [h1] at e
      exact hne e
    · rw [h1] at e
      injection e with e
      have := hg23.size
      omega
  have hkid : ∀ q ∈ ks, ∀ j, q.f j → j < W.heap.size := fun q hq j hj => (h.each q hq).lt j hj
  have mem : ∀ q ∈ ks ++ [⟨v, restOf d t, F⟩], q ∈ ks ∨ q = ⟨v, restOf d t, F⟩ := fun q hq => by simpa using hq
  have new4 : ∀ j, W.heap.size ≤ j → j < W2.heap.size → v4'.ownBlock ≠ some j := fun j h1 h2 e => by
    rcases hat with h3 | h3
    · rw [h3] at e
      have := b4 j e
      omega
    · rw [h3] at e
      injection e with e
      have := hg3.size
      omega
  refine ⟨F, ⟨by simp [h.len4], h.len5, ?_, fun q hq => ?_, fun q hq j hj => ?_, fun i j a b hi hj hne x hx hy => ?_, by rw [List.map_append]; exact ho, hk0.own h.own5 fun b h5 h4 => h.ne h4 h5, fun q hq j hj => ?_, fun q hq j hj => ?_, fun i u hu => ?_⟩, A, n, c, rfl, hv.kept hk (fun j hj _ h4 => by have := b4 j h4; omega) fun j hj hlt => ⟨Nat.le_trans hB hj.1, fun q hq hf => ?_, new4 j hj.1 hlt, fun e => by have := b5 j e; omega⟩⟩
  · rw [List.map_append, h.ls, List.take_add_one, ht]
    simp
  · rcases mem q hq with h1 | rfl
    · exact (h.each q h1).kept hk0 fun j hj => h.off4 q h1 j hj
    · exact c1.kept hk fun j hj h4 => by have := hF j hj; have := b4 j h4; omega
  · rcases mem q hq with h1 | rfl
    · exact h.ge q h1 j hj
    · exact Nat.le_trans hB (hF j hj)
  · have hl := h.len4
    have at_ : ∀ (i : Nat) (a : Kid), (ks ++ [⟨v, restOf d t, F⟩])[i]? = some a → (i < k4 ∧ ks[i]? = some a) ∨ (i = k4 ∧ a = ⟨v, restOf d t, F⟩) := fun i a hi => by
      rcases Nat.lt_trichotomy i k4 with h1 | h1 | h1
      · rw [List.getElem?_append_left (by omega)] at hi
        exact Or.inl ⟨h1, hi⟩
      · rw [List.getElem?_append_right (by omega), show i - ks.length = 0 by omega] at hi
        injection hi with hi
        exact Or.inr ⟨h1, hi.symm⟩
      · rw [List.getElem?_eq_none (by simp; omega)] at hi
        cases hi
    rcases at_ i a hi with ⟨h1, h2⟩ | ⟨h1, rfl⟩ <;> rcases at_ j b hj with ⟨h3, h4⟩ | ⟨h3, rfl⟩
    · exact h.apart i j a b h2 h4 hne x hx hy
    · have := hkid a (List.mem_of_getElem? h2) x hx
      have := hF x hy
      omega
    · have := hkid b (List.mem_of_getElem? h4) x hy
      have := hF x hx
      omega
    · omega
  · rcases mem q hq with h1 | rfl
    · exact b4' j (hkid q h1 j hj) (h.off4 q h1 j hj)
    · exact new4 j (hF j hj) (c1.lt j hj)
  · rcases mem q hq with h1 | rfl
    · exact h.off5 q h1 j hj
    · intro e
      have := b5 j e
      have := hF j hj
      omega
  · obtain ⟨A', n', c', t', h1, h2, h3⟩ := h.rows i u hu
    refine ⟨A', n', c', t', h1, h2, h3.kept hk0 (fun j hj _ => hj.2.2.1) fun j hj hlt => ⟨hj.1, fun q hq hf => ?_, b4' j hlt hj.2.2.1, hj.2.2.2⟩⟩
    rcases mem q hq with h4 | rfl
    · exact hj.2.1 q h4 hf
    · have := hF j hf
      omega
  · rcases mem q hq with h4 | rfl
    · have := hkid q h4 j hf
      omega
    · exact hj.2 hf
/-- one more rest -/
theorem BInv.push5 (h : BInv d B kids k4 k5 v4 v5 ks rv W) {t : TreeM} {v5' : Value} {A : Option Addr} {n c : Nat} (ht : kids[k5]? = some t) (hv : VecAt W (fun j => B ≤ j ∧ (∀ q ∈ ks, ¬ q.f j) ∧ v4.ownBlock ≠ some j ∧ v5.ownBlock ≠ some j) A n c ((restOf d t).map i64v)) (hg3 : Grow W W3)
    (ho : W4.ownsRow B 22 1 v5' (k5 + 1) (rv ++ [.slice A n c])) (hgr : W3.grownBy W4 v5.ownBlock) (hat : v5'.ownBlock = v5.ownBlock ∨ v5'.ownBlock = some W3.heap.size) :
    BInv d B kids k4 (k5 + 1) v4 v5' ks (rv ++ [.slice A n c]) W4 := by
  have hk : Keep (fun j => v5.ownBlock = some j) W W4 := (Keep.grow hg3).trans' (Keep.grown hgr)
  have b5' : ∀ j, j < W.heap.size → v5.ownBlock ≠ some j → v5'.ownBlock ≠ some j := fun j hj hne e => by
    rcases hat with h1 | h1
    · rw [h1] at e
      exact hne e
    · rw [h1] at e
      injection e with e
      have := hg3.size
      omega
  have hkid : ∀ q ∈ ks, ∀ j, q.f j → j < W.heap.size := fun q hq j hj => (h.each q hq).lt j hj
  have hvk : ∀ {A' : Option Addr} {n' c' : Nat} {t' : TreeM}, VecAt W (fun j => B ≤ j ∧ (∀ q ∈ ks, ¬ q.f j) ∧ v4.ownBlock ≠ some j ∧ v5.ownBlock ≠ some j) A' n' c' ((restOf d t').map i64v) → VecAt W4 (fun j => B ≤ j ∧ (∀ q ∈ ks, ¬ q.f j) ∧ v4.ownBlock ≠ some j ∧ v5'.ownBlock ≠ some j) A' n' c' ((restOf d t').map i64v) := fun hv =>
    hv.kept hk (fun j hj _ => hj.2.2.2) fun j hj hlt => ⟨hj.1, hj.2.1, hj.2.2.1, b5' j hlt hj.2.2.2⟩
  refine ⟨h.len4, by simp [h.len5], h.ls, fun q hq => (h.each q hq).kept hk fun j hj => h.off5 q hq j hj, h.ge, h.apart, hk.own h.own4 fun b h4 h5 => h.ne h4 h5, ho, h.off4, fun q hq j hj => b5' j (hkid q hq j hj) (h.off5 q hq j hj), fun i u hu => ?_⟩
  have hl := h.len5
  rcases Nat.lt_trichotomy i k5 with h1 | h1 | h1
  · rw [List.getElem?_append_left (by omega)] at hu
    obtain ⟨A', n', c', t', h2, h3, h4⟩ := h.rows i u hu
    exact ⟨A', n', c', t', h2, h3, hvk h4⟩
  · rw [List.getElem?_append_right (by omega), show i - rv.length = 0 by omega] at hu
    injection hu with hu
    exact ⟨A, n, c, t, hu.symm, by rw [h1]; exact ht, hvk hv⟩
  · rw [List.getElem?_eq_none (by simp; omega)] at hu
    cases hu
/-- all kids: as rows of cursors, as a slice of slices -/
theorem BInv.kidsAt (h : BInv d B kids k4 k5 v4 v5 ks rv W) : KidsAt (Cur d) W (fun j => ∃ q ∈ ks, q.f j) ks := ⟨h.each, fun q hq j hj => ⟨q, hq, hj⟩, h.apart⟩
theorem BInv.irows (h : BInv d B kids k4 kids.length v4 v5 ks rv W) (hlen : ∀ t ∈ kids, (restOf d t).length ≤ 17592186044416) : ∃ A c, v5 = .slice A kids.length c ∧ IRowsAt W W.heap.size A kids.length (kids.map (restOf d)) := by
  obtain ⟨A, c, rfl, -, -, hr⟩ := own_reads h.own5
  refine ⟨A, c, rfl, by simp, fun hn => ?_⟩
  obtain ⟨b, off, e, hb, hc⟩ := hr.2 hn
  refine ⟨b, off, e, hb, fun j l hl => ?_⟩
  rw [List.getElem?_map, Option.map_eq_some_iff] at hl
  obtain ⟨t, ht, rfl⟩ := hl
  have hj : j < rv.length := by have := (List.getElem?_eq_some_iff.1 ht).1; have := h.len5; omega
  obtain ⟨A', n', c', t', h1, h2, h3⟩ := h.rows j rv[j] (List.getElem?_eq_getElem hj)
  rw [ht] at h2
  injection h2 with h2
  subst h2
  refine ⟨A', n', c', ?_, ?_, h3.ints⟩
  · rw [← h1]
    exact hc j _ (List.getElem?_eq_getElem hj)
  · have := hlen t (List.mem_of_getElem? ht)
    have := h3.ints.len
    omega
end
theorem vlen2 {α : Type} {l : List α} (h : l.length = 2) : ∃ a b, l = [a, b] := by
  match l, h with
  | [a, b], _ => exact ⟨a, b, rfl⟩
theorem vlen3 {α : Type} {l : List α} (h : l.length = 3) : ∃ a b c, l = [a, b, c] := by
  match l, h with
  | [a, b, c], _ => exact ⟨a, b, c, rfl⟩
theorem vlen4 {α : Type} {l : List α} (h : l.length = 4) : ∃ a b c d, l = [a, b, c, d] := by
  match l, h with
  | [a, b, c, d], _ => exact ⟨a, b, c, d, rfl⟩
/-- 'c, r = cursor.X(..), mudlarkref20.X(..)': what stands amid its operations -/
def pairW (D B : Nat) (w0 : World) (L : List Int) : List Value → World → Prop
  | [], w => Grow w0 w
  | [v], w => (∃ F, Cur D w v L F ∧ ∀ j, F j → B ≤ j) ∧ Grow w0 w
  | [v, r], w => PairAt D B w v r L ∧ Grow w0 w
  | [v, r, x], w => x = v ∧ PairAt D B w v r L ∧ Grow w0 w
  | [v, r, x, y], w => x = v ∧ y = r ∧ PairAt D B w v r L ∧ Grow w0 w
  | _, _ => False
theorem pairW.grow {D B : Nat} {w0 : World} {L : List Int} : ∀ (vals : List Value) (w w2 : World), Grow w w2 → pairW D B w0 L vals w → pairW D B w0 L vals w2
  | [], _, _, hg, h => Grow.trans h hg
  | [_], _, _, hg, ⟨⟨F, h1, h2⟩, h3⟩ => ⟨⟨F, h1.grow hg, h2⟩, h3.trans hg⟩
  | [_, _], _, _, hg, h => ⟨h.1.grow hg, h.2.trans hg⟩
  | [_, _, _], _, _, hg, h => ⟨h.1, h.2.1.grow hg, h.2.2.trans hg⟩
  | [_, _, _, _], _, _, hg, h => ⟨h.1, h.2.1, h.2.2.1.grow hg, h.2.2.2.trans hg⟩
  | _ :: _ :: _ :: _ :: _ :: _, _, _, _, h => h.elim
theorem ReadsAt.madeP (w : World) (t s : Nat) (cs : List Value) (h : cs.length = 1 * s) : ReadsAt (w.alloc (.cells cs.toArray t)) (w.heap.size + 1) s (some ⟨w.heap.size, 0, none⟩) 1 cs :=
  ⟨h, fun _ => ⟨w.heap.size, 0, rfl, by omega, fun j u hu => by
    rw [(Blk.new w t cs.toArray).cell, Nat.zero_add]
    simpa using hu⟩⟩
/-- cells of places whose documents are the first k of l -/
def PlaceCs (l : List Int) (k : Nat) (xs : List Value) : Prop := xs.length = k * 2 ∧ ∀ j x, j < k → l[j]? = some x → xs[j * 2]? = some (.int .i64 x) ∧ ∃ y : Int, xs[j * 2 + 1]? = some (.int .i64 y)
theorem PlaceCs.snoc {l : List Int} {k : Nat} {xs : List Value} {x y : Int} (h : PlaceCs l k xs) (hx : l[k]? = some x) : PlaceCs l (k + 1) (xs ++ [.int .i64 x, .int .i64 y]) := by
  refine ⟨by simp [h.1]; omega, fun j z hj hz => ?_⟩
  have hl := h.1
  rcases Nat.lt_or_ge j k with h1 | h1
  · rw [List.getElem?_append_left (by omega), List.getElem?_append_left (by omega)]
    exact h.2 j z h1 hz
  · obtain rfl : j = k := by omega
    rw [hx] at hz
    injection hz with hz
    subst hz
    rw [List.getElem?_append_right (by omega), List.getElem?_append_right (by omega), show j * 2 - xs.length = 0 by omega, show j * 2 + 1 - xs.length = 1 by omega]
    exact ⟨rfl, y, rfl⟩
theorem PlaceCs.at_ {w : World} {l : List Int} {n : Nat} {xs : List Value} {A : Option Addr} (h : PlaceCs l n xs) (hl : l.length = n) (hr : ReadsAt w w.heap.size 2 A n xs) : PlacesAt w w.heap.size A n l :=
  ⟨hl, fun hn => by
    obtain ⟨b, off, e, hb, hc⟩ := hr.2 hn
    refine ⟨b, off, e, hb, fun j x hx => ?_⟩
    have hj := (List.getElem?_eq_some_iff.1 hx).1
    obtain ⟨h1, y, h2⟩ := h.2 j x (by omega) hx
    exact ⟨hc _ _ h1, y, hc _ _ h2⟩⟩
theorem flat_len {m : Nat} : ∀ (ls : List (List Int)), (∀ l ∈ ls, l.length ≤ m) → ls.flatten.length ≤ ls.length * m
  | [], _ => by simp
  | l :: ls, h => by
    have h1 := h l (by simp)
    have h2 := flat_len ls fun x hx => h x (by simp [hx])
    rw [List.flatten_cons, List.length_append, List.length_cons, Nat.add_mul]
    omega
theorem frame_g {R : Act → World → Prop} {a : Act} {w : World} (h : ∀ g : Nat → Value, g = (fun k => a.tmps.getD k undef) → R a w) : R a w := h _ rfl
end Go.Proofs.Ythjnggclemhgkaa
