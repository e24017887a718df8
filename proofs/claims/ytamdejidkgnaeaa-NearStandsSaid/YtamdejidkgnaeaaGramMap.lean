/-
  A map whose keys are grams, whose elements are whatever values: what a look-up tells, what a store makes. The entries are said as a list.
-/
import Derived.Test.YtamdejidkgnaeaaBaseC
import Derived.Test.YtamdejidkgnaeaaGramMath
import Derived.Maps.Keyed
import Derived.DeepKeys5
import Derived.WideKeyPair
namespace Go.Proofs.Ytamdejidkgnaeaa
open Go.RowKit Go.WideMaps Go.Maps
set_option linter.unusedVariables false

open GramM
/-- a gram's value -/
def gv (g : Gr) : Value := .agg #[b8 g.1, b8 g.2.1, b8 g.2.2]
theorem gv_inj {g h : Gr} (e : gv g = gv h) : g = h := by
  unfold gv b8 at e
  simp only [Value.agg.injEq, Array.mk.injEq, List.cons.injEq, Value.int.injEq, true_and, and_true] at e
  obtain ⟨e1, e2, e3⟩ := e
  have f1 : g.1 = h.1 := UInt8.toNat_inj.1 (by omega)
  have f2 : g.2.1 = h.2.1 := UInt8.toNat_inj.1 (by omega)
  have f3 : g.2.2 = h.2.2 := UInt8.toNat_inj.1 (by omega)
  exact Prod.ext f1 (Prod.ext f2 f3)
theorem gram_arr : ArrKey Try.prog 69 5 3 := ⟨Try.underlying69, by kernel_rfl, by kernel_rfl, by kernel_rfl⟩
theorem gram_wide : (match Try.prog.underlying 69 with | some (.array _ _) | some (.struct _) => true | _ => false) = true := by rw [Try.underlying69]
theorem gram_laid : laidOutB Try.prog = true := by kernel_rfl
theorem gram_row : (69 : TypeId) < Try.prog.types.size := of_decide_eq_true (by kernel_rfl)
theorem gram_deep : Try.prog.keyTypeAt 2 69 = true := by kernel_rfl
set_option maxRecDepth 100000 in
theorem gram_law : Keyed Try.prog 69 := Keyed.of_law (deep_law_laid gram_laid (m := 2) (by omega) gram_row gram_deep gram_wide)
theorem u8_wf (x : UInt8) : (Lit.int .u8 (x.toNat : Int)).wf = true := by
  have h := x.toNat_lt
  have e1 : IntKind.u8.min = 0 := by decide
  have e2 : IntKind.u8.max = 255 := by decide
  simp only [Lit.wf, e1, e2, Bool.and_eq_true, decide_eq_true_eq]
  omega
theorem gram_size : ∃ m, Try.prog.types.size = m + 1 := ⟨Try.prog.types.size - 1, by have h : 0 < Try.prog.types.size := of_decide_eq_true (by kernel_rfl); omega⟩
theorem gram_key' (g : Gr) : keyOf Try.prog 69 (gv g) = some (.string (keyBytes [.int .u8 (g.1.toNat : Int), .int .u8 (g.2.1.toNat : Int), .int .u8 (g.2.2.toNat : Int)])) := by
  have A := gram_arr
  have he : Try.prog.underlying 5 = some (.int .u8) := Try.underlying5
  have hkt := A.keyType gram_size
  obtain ⟨m, hm⟩ := gram_size
  unfold keyOf gv b8
  simp only [A.hu]
  rw [if_pos (by simp [hkt, Value.formed, A.hu, A.size]), hm]
  unfold Program.keyLits
  simp only [A.hu, Value.cells]
  rw [if_pos (by rw [A.size]; rfl), show List.range 3 = [0, 1, 2] from rfl, List.mapM_cons, List.mapM_cons, List.mapM_cons, List.mapM_nil]
  simp [A.one, Program.keyLits, he, u8_wf]
theorem gram_key (g : Gr) : ∃ l, keyOf Try.prog 69 (gv g) = some l := ⟨_, gram_key' g⟩
/-- block b is a map whose entries are es -/
def GMapAt (w : World) (b : Nat) (es : List (Gr × Value)) : Prop :=
  ∃ arr clock, w.heap[b]? = some (.map arr clock) ∧ arr.toList.map (fun e => (e.key, e.val)) = es.map (fun p => (gv p.1, p.2)) ∧ (es.map (·.1)).Nodup
section
variable {w w' : World} {b : Nat} {es : List (Gr × Value)}
theorem GMapAt.lt (h : GMapAt w b es) : b < w.heap.size := by
  obtain ⟨arr, clock, h1, -⟩ := h
  exact (Array.getElem?_eq_some_iff.1 h1).1
theorem GMapAt.kept (h : GMapAt w b es) (hk : w'.heap[b]? = w.heap[b]?) : GMapAt w' b es := by
  obtain ⟨arr, clock, h1, h2⟩ := h
  exact ⟨arr, clock, hk.trans h1, h2⟩
theorem GMapAt.keep {S : Nat → Prop} (h : GMapAt w b es) (hk : Keep S w w') (hS : ¬ S b) : GMapAt w' b es := h.kept (hk.block b h.lt hS)
theorem GMapAt.new (w : World) : GMapAt (w.alloc (.map #[] 0)) w.heap.size [] := ⟨#[], 0, World.alloc_heap_new w _, rfl, List.nodup_nil⟩
/-- what stands at a gram -/
def atG (es : List (Gr × Value)) (g : Gr) : Option Value := (es.find? fun p => p.1 == g).map (·.2)
theorem atG_mem {g : Gr} {v : Value} (h : atG es g = some v) : (g, v) ∈ es := by
  unfold atG at h
  rw [Option.map_eq_some_iff] at h
  obtain ⟨p, h1, rfl⟩ := h
  have h2 := List.mem_of_find?_eq_some h1
  have h3 := List.find?_some h1
  have : p.1 = g := by simpa using h3
  rw [← this]
  exact h2
theorem atG_of {g : Gr} {v : Value} (hn : (es.map (·.1)).Nodup) (h : (g, v) ∈ es) : atG es g = some v := by
  induction es with
  | nil => simp at h
  | cons p es ih =>
    rw [List.map_cons, List.nodup_cons] at hn
    unfold atG
    rcases List.mem_cons.1 h with rfl | h1
    · simp
    · have hne : (p.1 == g) = false := by
        rw [beq_eq_false_iff_ne]
        intro e2
        exact hn.1 (by rw [e2]; exact List.mem_map.2 ⟨_, h1, rfl⟩)
      have h2 := ih hn.2 h1
      unfold atG at h2
      rw [List.find?_cons, hne]
      exact h2
theorem atG_none {g : Gr} : atG es g = none ↔ g ∉ es.map (·.1) := by
  unfold atG
  rw [Option.map_eq_none_iff, List.find?_eq_none]
  constructor
  · intro h hm
    obtain ⟨p, hp, rfl⟩ := List.mem_map.1 hm
    exact h p hp (by simp)
  · intro h p hp e
    have e2 : p.1 = g := by simpa using e
    exact h (e2 ▸ List.mem_map.2 ⟨p, hp, rfl⟩)
theorem GMapAt.find (h : GMapAt w b es) (g : Gr) : ∃ arr clock, w.heap[b]? = some (.map arr clock) ∧ arr.toList.map (fun e => (e.key, e.val)) = es.map (fun p => (gv p.1, p.2)) ∧
    ((atG es g = none ∧ (Instr.findKey 69 (gv g) arr.toList).run Try.prog w = .ok none w) ∨ ∃ j v, es[j]? = some (g, v) ∧ atG es g = some v ∧ (Instr.findKey 69 (gv g) arr.toList).run Try.prog w = .ok (some (j, v)) w) := by
  obtain ⟨arr, clock, h1, h2, hn⟩ := h
  obtain ⟨lx, hlx⟩ := gram_key g
  have at_ : ∀ (j : Nat) (e : MapEntry), arr.toList[j]? = some e → ∃ p, es[j]? = some p ∧ e.key = gv p.1 ∧ e.val = p.2 := fun j e he => by
    have h3 : (arr.toList.map (fun e => (e.key, e.val)))[j]? = some (e.key, e.val) := by rw [List.getElem?_map, he]; rfl
    rw [h2, List.getElem?_map, Option.map_eq_some_iff] at h3
    obtain ⟨p, hp, he2⟩ := h3
    injection he2 with e1 e2
    exact ⟨p, hp, e1.symm, e2.symm⟩
  refine ⟨arr, clock, h1, h2, ?_⟩
  rcases gram_law.find w hlx arr.toList (fun e he => by
    obtain ⟨j, hj⟩ := List.getElem?_of_mem he
    obtain ⟨p, -, hk, -⟩ := at_ j e hj
    rw [hk]
    exact gram_key p.1) with ⟨h3, h4⟩ | ⟨j, e, h3, h4, h5⟩
  · refine Or.inl ⟨atG_none.2 fun hm => ?_, h3⟩
    obtain ⟨p, hp, rfl⟩ := List.mem_map.1 hm
    obtain ⟨j, hj⟩ := List.getElem?_of_mem hp
    have h6 : (arr.toList.map (fun e => (e.key, e.val)))[j]? = some (gv p.1, p.2) := by rw [h2, List.getElem?_map, hj]; rfl
    rw [List.getElem?_map, Option.map_eq_some_iff] at h6
    obtain ⟨e, he, he2⟩ := h6
    injection he2 with e1 e2
    exact h4 e (List.mem_of_getElem? he) e1
  · obtain ⟨p, hp, hk, hv⟩ := at_ j e h4
    have e2 : p.1 = g := gv_inj (hk.symm.trans h5)
    have e3 : p = (g, e.val) := Prod.ext e2 hv.symm
    rw [e3] at hp
    exact Or.inr ⟨j, e.val, hp, atG_of hn (List.mem_of_getElem? hp), h3⟩
/-- what a store makes of the entries -/
def putG (es : List (Gr × Value)) (g : Gr) (v : Value) : List (Gr × Value) := if g ∈ es.map (·.1) then es.map (fun p => if p.1 = g then (g, v) else p) else es ++ [(g, v)]
theorem putG_keys (g : Gr) (v : Value) : (putG es g v).map (·.1) = if g ∈ es.map (·.1) then es.map (·.1) else es.map (·.1) ++ [g] := by
  unfold putG
  split
  · rw [List.map_map]
    refine List.map_congr_left fun p hp => ?_
    show (if p.1 = g then (g, v) else p).1 = p.1
    split
    · rename_i h
      exact h.symm
    · rfl
  · simp
theorem putG_nodup {g : Gr} {v : Value} (h : (es.map (·.1)).Nodup) : ((putG es g v).map (·.1)).Nodup := by
  rw [putG_keys]
  split
  · exact h
  · rename_i hn
    rw [List.nodup_append]
    exact ⟨h, by simp, fun x hx y hy e => hn (by simp at hy; rw [← hy, ← e]; exact hx)⟩
theorem keep_setBlock (w : World) (b : Nat) (o : Obj) : Keep (fun j => j = b) w (Go.ChangeMaps.setBlock w b o) := ⟨rfl, rfl, rfl, by simp [Go.ChangeMaps.setBlock], fun k hk hs => by
  show (w.heap.setIfInBounds b o)[k]? = w.heap[k]?
  rw [Array.getElem?_setIfInBounds, if_neg fun e => hs e.symm]⟩
end
end Go.Proofs.Ytamdejidkgnaeaa
