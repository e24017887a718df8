/-
  A function that holds ranges over functions leaves with marks among its deferred calls; where no round defers, each mark is taken up in one step. Conditions: the marks' blocks are distinct and open.
-/
import Derived.Test.YtamdejidkgnaeaaRange
namespace Go.Proofs.Ytamdejidkgnaeaa
open Go.RowKit

/-- the marks' blocks: distinct, from B on, open and empty -/
structure Marks (B : Nat) (ms : List Nat) (w : World) : Prop where
  nodup : ms.Nodup
  ge : ∀ m ∈ ms, B ≤ m
  opened : ∀ m ∈ ms, w.heap[m]? = some (.deferred (some []))

def markOf (m : Nat) : Deferred := { target := .collected m, args := #[] }

theorem Marks.nil (B : Nat) (w : World) : Marks B [] w := ⟨List.nodup_nil, fun _ h => absurd h (by simp), fun _ h => absurd h (by simp)⟩
theorem Marks.lt {B : Nat} {ms : List Nat} {w : World} (h : Marks B ms w) {m : Nat} (hm : m ∈ ms) : m < w.heap.size := (Array.getElem?_eq_some_iff.1 (h.opened m hm)).1
theorem Marks.cons {B : Nat} {ms : List Nat} {w w' : World} (h : Marks B ms w) {m : Nat} (hB : B ≤ m) (hm : w'.heap[m]? = some (.deferred (some []))) (hnew : w.heap.size ≤ m) (hk : ∀ k ∈ ms, w'.heap[k]? = w.heap[k]?) : Marks B (m :: ms) w' :=
  ⟨List.nodup_cons.2 ⟨fun hin => by have := h.lt hin; omega, h.nodup⟩, fun k hk' => by
    rcases List.mem_cons.1 hk' with rfl | h'
    · exact hB
    · exact h.ge k h', fun k hk' => by
    rcases List.mem_cons.1 hk' with rfl | h'
    · exact hm
    · exact (hk k h').trans (h.opened k h')⟩
theorem Marks.keep {B : Nat} {ms : List Nat} {w w' : World} (h : Marks B ms w) (hk : ∀ k ∈ ms, w'.heap[k]? = w.heap[k]?) : Marks B ms w' :=
  ⟨h.nodup, h.ge, fun k h' => (hk k h').trans (h.opened k h')⟩

/-- only blocks of ms have turned -/
structure OnlyMarks (ms : List Nat) (w w' : World) : Prop where
  os : w'.os = w.os
  tape : w'.tape = w.tape
  output : w'.output = w.output
  size : w'.heap.size = w.heap.size
  block : ∀ k, k ∉ ms → w'.heap[k]? = w.heap[k]?

theorem OnlyMarks.cell {ms : List Nat} {w w' : World} (h : OnlyMarks ms w w') {p : Addr} (hp : p.block ∉ ms) : w'.cell? p = w.cell? p := World.cell?_of_block (h.block _ hp)
theorem OnlyMarks.below {ms : List Nat} {w w' : World} (h : OnlyMarks ms w w') {B : Nat} (hB : ∀ m ∈ ms, B ≤ m) : Below B w w' :=
  ⟨h.os, h.tape, h.output, by rw [h.size]; exact Nat.le_refl _, fun k hk => h.block k fun hin => by have := hB k hin; omega⟩

theorem leaves_marks {F : Fence} {n : Nat} {P : Program} {fn : Func} {tmps : Array Value} {R : Ending → World → Prop} {u : FrameMode} (hu : u ≠ .run) {B : Nat} :
    ∀ (ms : List Nat) (w : World), Marks B ms w → (∀ w', OnlyMarks ms w w' → LeavesIn F n P fn tmps R [] u w') → LeavesInM F n P fn tmps R (ms.map markOf) u w := by
  intro ms
  induction ms with
  | nil => exact fun w _ h => h w ⟨rfl, rfl, rfl, rfl, fun _ _ => rfl⟩
  | cons m ms ih =>
    intro w hm h
    have h0 := hm.opened m (by simp)
    refine ⟨hu, .inl ⟨m, _, rfl, run_takeDeferred h0, ?_⟩⟩
    have hnd := List.nodup_cons.1 hm.nodup
    refine ih _ ⟨hnd.2, fun k hk => hm.ge k (by simp [hk]), fun k hk => (World.putObj_heap_other (fun e => hnd.1 (by rw [← e]; exact hk))).trans (hm.opened k (by simp [hk]))⟩ fun w' ho => h w' ?_
    refine ⟨ho.os, ho.tape, ho.output, by rw [ho.size]; simp, fun k hk => ?_⟩
    rw [ho.block k (fun h' => hk (by simp [h']))]
    exact World.putObj_heap_other (fun e => hk (by simp [e]))
end Go.Proofs.Ytamdejidkgnaeaa
