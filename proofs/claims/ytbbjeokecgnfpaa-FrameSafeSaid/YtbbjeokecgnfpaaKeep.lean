/-
  What a call may turn: some blocks that lay before, and new ones. Facts that last while only such blocks turn. No program is in sight.
-/
import Derived.Test.YtbbjeokecgnfpaaStages
import Derived.Test.YtbbjeokecgnfpaaFactKit
import Derived.Test.YtbbjeokecgnfpaaAppend
namespace Go.Proofs.Ytbbjeokecgnfpaa
open Go.RowKit

/-- of what lay before, only blocks of S have turned -/
structure Keep (S : Nat → Prop) (w w' : World) : Prop where
  os : w'.os = w.os
  tape : w'.tape = w.tape
  output : w'.output = w.output
  size : w.heap.size ≤ w'.heap.size
  block : ∀ k, k < w.heap.size → ¬ S k → w'.heap[k]? = w.heap[k]?

section
variable {S T : Nat → Prop} {w w1 w2 : World}
theorem Keep.refl (S : Nat → Prop) (w : World) : Keep S w w := ⟨rfl, rfl, rfl, Nat.le_refl _, fun _ _ _ => rfl⟩
theorem Keep.trans (h : Keep S w w1) (k : Keep T w1 w2) (hT : ∀ j, T j → S j ∨ w.heap.size ≤ j) : Keep S w w2 :=
  ⟨k.os.trans h.os, k.tape.trans h.tape, k.output.trans h.output, Nat.le_trans h.size k.size, fun j hj hs => (k.block j (by have := h.size; omega) (fun ht => by rcases hT j ht with h1 | h1; exact hs h1; omega)).trans (h.block j hj hs)⟩
theorem Keep.trans' (h : Keep S w w1) (k : Keep S w1 w2) : Keep S w w2 := h.trans k fun _ => Or.inl
theorem Keep.mono (h : Keep S w w1) (hS : ∀ j, S j → T j ∨ w.heap.size ≤ j) : Keep T w w1 := (Keep.refl T w).trans h hS
theorem Keep.grow (h : Grow w w1) : Keep S w w1 := ⟨h.os, h.tape, h.output, h.size, fun k hk _ => h.block k hk⟩
theorem Keep.grown {row : Option Nat} (h : w.grownBy w1 row) : Keep (fun k => row = some k) w w1 := ⟨h.os, h.tape, h.output, h.size, fun k hk hs => h.block k hk (fun e => hs e.symm)⟩
theorem Keep.setCell (w : World) (p : Addr) (u : Value) : Keep (fun k => k = p.block) w (w.setCell p u) := ⟨rfl, rfl, rfl, by simp [World.setCell], fun k _ hs => Below.heap_setCell w p u k hs⟩
theorem Keep.alloc (w : World) (o : Obj) : Keep S w (w.alloc o) := Keep.grow (Grow.alloc w o)
theorem Keep.drew (w : World) : Keep S w w.drew := Keep.grow (Grow.drew w)
theorem Keep.below (h : Keep S w w1) {B : Nat} (hB : ∀ k, S k → B ≤ k) (hw : B ≤ w.heap.size) : Below B w w1 := ⟨h.os, h.tape, h.output, h.size, fun k hk => h.block k (by omega) (fun hs => by have := hB k hs; omega)⟩
theorem Keep.blk (h : Keep S w w1) {g t : Nat} {cs : Array Value} (hb : Blk w g t cs) (hg : ¬ S g) : Blk w1 g t cs := (h.block g hb.lt hg).trans hb
theorem Keep.obj (h : Keep S w w1) {g : Nat} {o : Obj} (hb : w.heap[g]? = some o) (hg : ¬ S g) : w1.heap[g]? = some o := (h.block g (Array.getElem?_eq_some_iff.1 hb).1 hg).trans hb
theorem Keep.own (h : Keep S w w1) {base e size n : Nat} {v : Value} {xs : List Value} (ho : w.ownsRow base e size v n xs) (hg : ∀ k, v.ownBlock = some k → ¬ S k) : w1.ownsRow base e size v n xs := by
  refine ⟨ho.1, ?_⟩
  rcases ho.2 with h0 | ⟨g, cap, cur, rfl, hb, hg1, rest⟩
  · exact Or.inl h0
  · exact Or.inr ⟨g, cap, cur, rfl, hb, h.obj hg1 (hg g rfl), rest⟩
theorem Keep.reads (h : Keep S w w1) {B s n : Nat} {A : Option Addr} {xs : List Value} (hr : ReadsAt w B s A n xs) (hB : B ≤ w.heap.size) (hA : ∀ ad, A = some ad → ¬ S ad.block) : ReadsAt w1 B s A n xs :=
  ⟨hr.1, fun hn => by
    obtain ⟨b, off, e, hb, hc⟩ := hr.2 hn
    refine ⟨b, off, e, hb, fun j u hu => ?_⟩
    have := h.block b (by omega) (hA _ e)
    rw [World.cell?_of_block (a := ⟨b, off + j, none⟩) this]
    exact hc j u hu⟩
theorem Keep.reads' (h : Keep S w w1) {B s n : Nat} {A : Option Addr} {xs : List Value} (hr : ReadsAt w B s A n xs) (hB : B ≤ w.heap.size) (hA : 0 < n → ∀ ad, A = some ad → ¬ S ad.block) : ReadsAt w1 B s A n xs := by
  rcases Nat.eq_zero_or_pos n with h0 | h0
  · exact ⟨hr.1, fun hn => by omega⟩
  · exact h.reads hr hB (hA h0)
theorem Keep.cell (h : Keep S w w1) {p : Addr} (hp : p.block < w.heap.size) (hs : ¬ S p.block) : w1.cell? p = w.cell? p := World.cell?_of_block (h.block _ hp hs)
end

/-- what an owned slice's block is -/
theorem own_obj {w : World} {base e size n k : Nat} {v : Value} {xs : List Value} (h : w.ownsRow base e size v n xs) (hk : v.ownBlock = some k) : ∃ cur, w.heap[k]? = some (.cells cur e (0, 0)) := by
  rcases h.2 with ⟨rfl, _⟩ | ⟨g, cap, cur, rfl, _, hg, _⟩
  · simp [Value.ownBlock] at hk
  · simp [Value.ownBlock] at hk
    subst hk
    exact ⟨cur, hg⟩

/-- a fact of a value that lasts along le -/
structure FactOn (le : World → World → Prop) where
  p : Value → World → Prop
  mono : ∀ u w1 w2, le w1 w2 → p u w1 → p u w2
def FactOn.any {le : World → World → Prop} : FactOn le := ⟨fun _ _ => True, fun _ _ _ _ h => h⟩
def FactOn.is {le : World → World → Prop} (v : Value) : FactOn le := ⟨fun u _ => u = v, fun _ _ _ _ h => h⟩
/-- a row of one cell in a block that was just made -/
def FactOn.new1 {S : Nat → Prop} (B0 : Nat) (hS : ∀ k, S k → k < B0) (t : Nat) (x : Value) : FactOn (Keep S) :=
  ⟨fun u w => ∃ m, u = .slice (some ⟨m, 0, none⟩) 1 1 ∧ B0 ≤ m ∧ Blk w m t #[x], fun _ _ _ hk ⟨m, h1, h2, h3⟩ => ⟨m, h1, h2, hk.blk h3 (fun hs => by have := hS m hs; omega)⟩⟩
def FactsOn {le : World → World → Prop} (l : List (FactOn le)) (i : Nat) : Value → World → Prop := (l.getD i FactOn.any).p
theorem FactsOn.mono {le : World → World → Prop} (l : List (FactOn le)) : ∀ i u w1 w2, le w1 w2 → FactsOn l i u w1 → FactsOn l i u w2 := fun i => (l.getD i FactOn.any).mono

section
variable {P : Program} {ops : Array Oper} {ms : List Nat} {le : World → World → Prop} {W : List Value → World → Prop} {F : Nat → Value → World → Prop} {bnd : Nat → Nat} {a : Act} {w : World} {Q : Exit → Act → World → Prop}
theorem wanted_other {o : Oper} {t : Array Value} {j d : Nat} {b : Bool} (h : o.guard = some (j, b)) (hd : (ops[j]?).bind (·.dst) = some d) (hv : t[d]? = some (.bool (!b))) : Region.wanted o (yielded ops t) = false := by
  simp [Region.wanted, h, yielded, hd, hv]
theorem wanted_undef {o : Oper} {t : Array Value} {j d : Nat} {b : Bool} (h : o.guard = some (j, b)) (hd : (ops[j]?).bind (·.dst) = some d) (hv : t[d]? = some undef) : Region.wanted o (yielded ops t) = false := by
  simp [Region.wanted, h, yielded, hd, hv, undef]
/-- an operation of the chain -/
theorem stageOf_mem {i t : Nat} {o : Oper} (hi : ms.idxOf? i = some t) (h : ∀ (us : Nat → Value) (vals : List Value) (w1 : World) (a' : Act), Hid (a' = fills ops.toList 0 us a) → le w w1 → W vals w1 → DepsM ms F us vals w1 (o.after.toList.filter (Region.binds .any)) → vals.length = t →
    Region.wanted o (yielded ops a'.tmps) = true ∧ ∀ K : Act → World → Prop, (∀ v w2, le w1 w2 → W (vals ++ [v]) w2 → K (a'.put o.dst v) w2) → o.wp P a' w1 K Q) : StageOf P ops ms le W F bnd a w Q i o := by
  intro us vals w1 a' ha hl hw hd
  rw [hi]
  exact h us vals w1 a' ha hl hw hd
/-- another one, that is wanted -/
theorem stageOf_free {i : Nat} {o : Oper} (hi : ms.idxOf? i = none)
    (hw : ∀ (us : Nat → Value) (vals : List Value) (w1 : World) (a' : Act), Hid (a' = fills ops.toList 0 us a) → DepsM ms F us vals w1 (o.after.toList.filter (Region.binds .any)) → Region.wanted o (yielded ops a'.tmps) = true)
    (h : ∀ (us : Nat → Value) (vals : List Value) (w1 : World) (a' : Act), Hid (a' = fills ops.toList 0 us a) → le w w1 → W vals w1 → DepsM ms F us vals w1 (o.after.toList.filter (Region.binds .any)) → vals.length ≤ bnd i →
      ∀ K : Act → World → Prop, (∀ v w2, Grow w1 w2 → F i v w2 → K (a'.put o.dst v) w2) → o.wp P a' w1 K Q) : StageOf P ops ms le W F bnd a w Q i o := by
  intro us vals w1 a' ha hl hW hd
  rw [hi]
  intro hv
  rw [if_pos (hw us vals w1 a' ha hd)]
  exact h us vals w1 a' ha hl hW hd hv
/-- one that is not wanted -/
theorem stageOf_skip {i : Nat} {o : Oper} (hi : ms.idxOf? i = none)
    (hw : ∀ (us : Nat → Value) (vals : List Value) (w1 : World) (a' : Act), Hid (a' = fills ops.toList 0 us a) → DepsM ms F us vals w1 (o.after.toList.filter (Region.binds .any)) → Region.wanted o (yielded ops a'.tmps) = false)
    (h : ∀ w1, F i undef w1) : StageOf P ops ms le W F bnd a w Q i o := by
  intro us vals w1 a' ha hl hW hd
  rw [hi]
  intro hv
  rw [if_neg (by rw [hw us vals w1 a' ha hd]; simp)]
  exact h w1
end
theorem own_base {w : World} {base base' e size n : Nat} {v : Value} {xs : List Value} (h : w.ownsRow base e size v n xs) (hb : base' ≤ base) : w.ownsRow base' e size v n xs := by
  refine ⟨h.1, ?_⟩
  rcases h.2 with h1 | ⟨g, cap, cur, h1, h2, h3⟩
  · exact Or.inl h1
  · exact Or.inr ⟨g, cap, cur, h1, Nat.le_trans hb h2, h3⟩
end Go.Proofs.Ytbbjeokecgnfpaa
