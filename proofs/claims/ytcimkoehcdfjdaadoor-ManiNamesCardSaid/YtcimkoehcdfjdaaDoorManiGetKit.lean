/-
  The walks of mani's must, and of the closure that Get defers.
-/
import Derived.RecoverIn
import Derived.RangeFuncLeaves
import Derived.Laws.Pointers
import Derived.WalkLawsBesides
import Derived.Test.YtcimkoehcdfjdaaDoorManiPut
namespace Go.Proofs.YtcimkoehcdfjdaaDoor
open Go.RowKit WireM
set_option linter.unusedVariables false

/-- what must throws -/
def thrown : List PanicEntry := [{ v := .iface 27 (.int .i64 9), recovered := false }]
theorem mmust_yes (w : World) : Calls Tryd.prog 34 #[.bool true] w fun e w' => e = .returned (.tuple #[]) ∧ w = w' := by
  go_enter Tryd.func34, Tryd.ntmps34
  go_wp2
  go_end0
  exact ⟨rfl, rfl⟩
theorem mmust_no (w : World) : Calls Tryd.prog 34 #[.bool false] w fun e w' => e = .panicked thrown ∧ w = w' := by
  go_enter Tryd.func34, Tryd.ntmps34
  go_wp2
  exact ⟨rfl, rfl, rfl⟩

set_option maxRecDepth 100000 in
theorem mGet1_idle (n : Nat) (pe pm : Addr) (w : World) : CallsDIn Fence.wide n Tryd.prog 32 #[.pointer (some pe), .pointer (some pm)] .returning w fun e u' w' => e = .returned (.tuple #[]) ∧ u' = .returning ∧ w' = w := by
  refine callsDIn_of_wpSIn Tryd.func32 rfl trivial fun c₀ cs hu => ?_
  apply wpSIn_seq
  apply wpSIn_region
  simp [wpOpsSIn, go_sem, recoverD, hu, Tryd.ntmps32, Exit.thenS]
  apply wpSIn_seq
  apply wpSIn_region
  simp [wpOpsSIn, go_sem, Exit.thenS]
  refine wpSIn_cond (t := false) (by simp [Act.eval, Array.replicate]) ?_
  simp only [Bool.false_eq_true, if_false]
  refine wpSIn_of_wpIn rfl (wpIn_skip ?_)
  cases c₀
  simp_all [bodyPostS, results, Tryd.results32]
theorem assert_errno (W : World) (v : Value) : (Instr.typeAssert (.iface 27 v) 20 27 true).run Tryd.prog W = .ok (.tuple #[v, .bool true]) W := by kernel_rfl
set_option maxRecDepth 100000 in
set_option maxHeartbeats 2000000 in
theorem mGet1_caught (n : Nat) (pe pm : Nat) (x : Int) (cs0 : Array Value) (w : World) (he : Blk w pe 27 #[.int .i64 x]) (v1 v2 : Value) (hm : Blk w pm 34 #[v1, v2]) (hne : pe ≠ pm) :
    CallsDIn Fence.wide n Tryd.prog 32 #[.pointer (some ⟨pe, 0, none⟩), .pointer (some ⟨pm, 0, none⟩)] (.panicking thrown) w fun e u' w' =>
      e = .returned (.tuple #[]) ∧ u' = .panicking [{ v := .iface 27 (.int .i64 9), recovered := true }] ∧ Blk w' pe 27 #[.int .i64 9] ∧ Blk w' pm 34 #[.int .i64 0, .slice none 0 0] ∧ Keep (fun k => k = pe ∨ k = pm) w w' := by
  have hta := fun (W : World) (v : Value) => assert_errno W v
  have e0 := he.cell 0
  have ef := he.frozen 0
  have hm' : Blk (w.setCell ⟨pe, 0, none⟩ (.int .i64 9)) pm 34 #[v1, v2] := hm.far (p := ⟨pe, 0, none⟩) (fun h => hne h.symm) _
  have m0 := hm'.cell 0
  have mf0 := hm'.frozen 0
  have hm2 := hm'.set 0 (.int .i64 0)
  have m1 := hm2.cell 1
  have mf1 := hm2.frozen 1
  refine callsDIn_of_wpSIn Tryd.func32 rfl trivial fun c₀ cs hu => ?_
  rw [thrown] at hu
  simp only [Tryd.ntmps32, List.size_toArray, List.length_cons, List.length_nil, Nat.reduceAdd, Nat.reduceSub, Array.replicate_succ, Array.replicate_zero, List.push_toArray, List.append_toArray, List.nil_append, List.cons_append]
  apply wpSIn_seq
  apply wpSIn_region
  simp [wpOpsSIn, go_sem, recoverD, hu, Exit.thenS]
  refine wpSIn_of_wpIn rfl ?_
  gi_wp2
  have hE : Blk (((w.setCell ⟨pe, 0, none⟩ (.int .i64 9)).setCell ⟨pm, 0, none⟩ (.int .i64 0)).setCell ⟨pm, 1, none⟩ (.slice none 0 0)) pe 27 #[.int .i64 9] := by
    have h1 := (he.set 0 (.int .i64 9))
    exact (h1.far (p := ⟨pm, 0, none⟩) hne _).far (p := ⟨pm, 1, none⟩) hne _
  have hM := hm2.set 1 (.slice none 0 0)
  have hK : Keep (fun k => k = pe ∨ k = pm) w (((w.setCell ⟨pe, 0, none⟩ (.int .i64 9)).setCell ⟨pm, 0, none⟩ (.int .i64 0)).setCell ⟨pm, 1, none⟩ (.slice none 0 0)) :=
    (((Keep.setCell w ⟨pe, 0, none⟩ _).mono fun j hj => Or.inl (Or.inl hj)).trans' ((Keep.setCell _ ⟨pm, 0, none⟩ _).mono fun j hj => Or.inl (Or.inr hj))).trans' ((Keep.setCell _ ⟨pm, 1, none⟩ _).mono fun j hj => Or.inl (Or.inr hj))
  refine ⟨rfl, _, rfl, .tuple #[], by simp [results, Tryd.results32], rfl, rfl, hE, ?_, hK⟩
  simpa using hM
end Go.Proofs.YtcimkoehcdfjdaaDoor
