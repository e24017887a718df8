/-
  The walk of slices.Grow on no bytes: a row without elements, with room.
-/
import Derived.Lib.AppendZerosOnto
import Derived.Test.YtbbjeokecgnfpaaGreatProg
import Derived.Outline
import Derived.WalkKit
import Derived.Lib.Hide
import Derived.IntWalk
import Derived.Test.YtbbjeokecgnfpaaGreatBaseC
import Derived.OwnWalk
namespace Go.Proofs.YtbbjeokecgnfpaaGreat
open Go.RowKit

theorem wpList_append_run {P : Program} {ops : Array Oper} {rest : List Oper} {o : Oper} {a : Act} {Q : Exit → Act → World → Prop} {w : World} (hgd : o.guard = none) (s x : Operand) {t u : TypeId}
    (ho : o.op = .call { callee := .builtin .append, args := #[s, x], argTypes := #[t, u] }) {v1 v2 v : Value} {w' : World} (hs : a.eval s = v1) (hx : a.eval x = v2)
    (hrun : (Builtin.append_ #[t, u] o.type #[v1, v2]).run P w = .ok v w') (h : wpList P ops Q rest (a.put o.dst v) w') : wpList P ops Q (o :: rest) a w := by
  refine wpList_plain hgd fun _ hK => ?_
  unfold Oper.wp execOp
  simp only [ho, resolve, invoke, builtin, Sem.run_bind, Sem.run_pure, Result.andThen_ok, List.map_toArray, List.map_cons, List.map_nil, hs, hx, hrun]
  exact hK _ _ h

set_option maxRecDepth 100000 in
set_option maxHeartbeats 1000000 in
theorem GrowBytes_nil (w : World) (k : Nat) (hk : k ≤ 70368744177664) :
    Calls Tryz.prog 48 #[.slice none 0 0, .int .i64 (k : Int)] w fun e w' => ∃ r, e = .returned r ∧ w'.ownsRow w.heap.size 5 1 r 0 [] ∧ Grow w w' := by
  rcases Nat.eq_zero_or_pos k with h0 | h0
  · subst h0
    refine Calls.mono (show Calls Tryz.prog 48 #[.slice none 0 0, .int .i64 0] w (fun e w' => ∃ r, e = .returned r ∧ w'.ownsRow w.heap.size 5 1 r 0 [] ∧ Grow w w') from ?_) (fun _ _ h => h)
    go_enter Tryz.func48, Tryz.ntmps48
    go_wp2
    go_ret
    exact ⟨_, rfl, World.ownsRow_nil _ _ _ _, Grow.refl w⟩
  · have hk1 : (0 : Int) < (k : Int) := by omega
    obtain ⟨i0, hi, hz0, hz1, hz2⟩ := info_parts (show (Tryz.prog.info? 5).map (fun i => (i.zero, i.size, i.bytes)) = some (some (.int .u8 0), 1, 1) by kernel_rfl)
    have hrun := Lib.run_append_grow_zeros (P := Tryz.prog) w 26 3 26 5 i0 (.int .u8 0) .i64 .i64 Tryz.underlying26 Tryz.underlying3 hi hz0 none 0 0 [] (by rw [hz1]; simp [Builtin.firstCells]) k h0 (by omega) (by omega) (by omega) (by rw [hz2]; omega) (by rw [hz2]; exact growslice_fits (by omega) (by omega))
    have hge := grownCap_ge w (0 + k) 0 5
    have hcm : grownCap w (0 + k) 0 5 ≤ maxLen := grownCap_le_maxLen w (0 + k) 0 5 (by simp only [maxLen]; omega)
    obtain ⟨C, hC⟩ : ∃ C, C = grownCap w (0 + k) 0 5 := ⟨_, rfl⟩
    obtain ⟨Z, hZ⟩ : ∃ Z : Array Value, Z = (([] : List Value).toArray ++ Builtin.zeroCells (Value.cells (.int .u8 0)) k ++ Builtin.zeroCells (Value.cells (.int .u8 0)) (C - (0 + k))) := ⟨_, rfl⟩
    rw [← hC] at hrun hge hcm
    rw [← hZ, Nat.zero_add] at hrun
    have hZs : Z.size = C := by rw [hZ]; simp [size_zeroCells, Value.cells]; omega
    have hown : (w.drew.alloc (.cells Z 5)).ownsRow w.heap.size 5 1 (.slice (some ⟨w.heap.size, 0, none⟩) 0 C) 0 [] := World.ownsRow_made w.drew Z C (Nat.le_refl _) hcm (by rw [hZs, Nat.mul_one])
    have Hown := Lib.hid hown
    have hC9 : C ≤ 9223372036854775807 := hcm
    clear hown hZ hC hZs hi hz0 hz1 hz2 hcm
    go_enter Tryz.func48, Tryz.ntmps48
    go_wp2_with (at_builtin; refine wpList_append_run rfl (.tmp 20) (.tmp 21) rfl rfl rfl hrun ?_)
    go_ret
    exact ⟨_, rfl, Hown.out, (Grow.drew w).trans (Grow.alloc _ _)⟩
end Go.Proofs.YtbbjeokecgnfpaaGreat
