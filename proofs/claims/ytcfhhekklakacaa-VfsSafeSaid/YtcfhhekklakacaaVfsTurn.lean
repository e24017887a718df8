/-
  The walks of a disk's up, down, turn.
-/
import Derived.Test.YtcfhhekklakacaaVfsSt
import Derived.BigQuiet
import Derived.IntWalk
import Derived.Great.Walk
namespace Go.Proofs.Ytcfhhekklakacaa
open Go.RowKit
set_option linter.unusedVariables false
theorem diskC_set3 (room : Int) (mb : Nat) (uv : Value) (a f t c : Int) (d : Bool) (x : Int) : (diskC room mb uv a f t c d).setIfInBounds 3 (.int .i64 x) = diskC room mb uv x f t c d := rfl
theorem diskC_set4 (room : Int) (mb : Nat) (uv : Value) (a f t c : Int) (d : Bool) (x : Int) : (diskC room mb uv a f t c d).setIfInBounds 4 (.int .i64 x) = diskC room mb uv a x t c d := rfl
theorem diskC_set8 (room : Int) (mb : Nat) (uv : Value) (a f t c : Int) (d : Bool) (x : Int) : (diskC room mb uv a f t c d).setIfInBounds 8 (.int .i64 x) = diskC room mb uv a f x c d := rfl
theorem diskC_set9 (room : Int) (mb : Nat) (uv : Value) (a f t c : Int) (d : Bool) (x : Int) : (diskC room mb uv a f t c d).setIfInBounds 9 (.int .i64 x) = diskC room mb uv a f t x d := rfl
theorem diskC_set10 (room : Int) (mb : Nat) (uv : Value) (a f t c : Int) (d : Bool) (x : Bool) : (diskC room mb uv a f t c d).setIfInBounds 10 (.bool x) = diskC room mb uv a f t c x := rfl
theorem diskC_set2 (room : Int) (mb : Nat) (uv : Value) (a f t c : Int) (d : Bool) (x : Value) : (diskC room mb uv a f t c d).setIfInBounds 2 x = diskC room mb x a f t c d := rfl
section
variable {room : Int} {mb : Nat} {uv : Value} {a f t c : Int} {d : Bool}
set_option maxRecDepth 100000 in
set_option maxHeartbeats 1000000 in
theorem vup_any (w : World) (g : Nat) (hb : Blk w g 51 (diskC room mb uv a f t c d)) :
    Calls Try.prog 32 #[pg g] w fun e w' => e = .returned (.int .i64 (if d then 12 else 0)) ∧ w' = w := by
  have h10 := hb.cell 10
  have h11 := hb.cell 11
  clear hb
  cases d with
  | true =>
    go_enter Try.func32, Try.ntmps32
    go_wp2
    go_ret
    exact ⟨rfl, rfl⟩
  | false =>
    go_enter Try.func32, Try.ntmps32
    go_wp2
    go_ret
    exact ⟨rfl, rfl⟩
set_option maxRecDepth 100000 in
set_option maxHeartbeats 1000000 in
theorem vdown_any (w : World) (g : Nat) (hb : Blk w g 51 (diskC room mb uv a f t c d)) :
    Calls Try.prog 33 #[pg g] w fun e w' => e = .returned (.tuple #[]) ∧ (∃ c', Blk w' g 51 (diskC room mb uv a f t c' true)) ∧ Keep (fun j => j = g) w w' := by
  have h9 := hb.cell 9
  have h10 := hb.cell 10
  have hf9 := hb.frozen 9
  have hf10 := hb.frozen 10
  have Hb := Lib.hid hb
  clear hb
  go_enter Try.func33, Try.ntmps33
  go_wp2
  refine Go.Great.bodyPost_end0 rfl rfl ?_
  refine ⟨rfl, ⟨_, (Hb.out.set 10 (.bool true)).set 9 (.int .i64 (wrap64 (c + 1)))⟩, ?_⟩
  exact (Keep.setCell w ⟨g, 10, none⟩ (.bool true)).trans' (Keep.setCell _ ⟨g, 9, none⟩ _)
end
/-- the error of a changing call's begin, and the state behind it -/
def turnE (S : St) : Int := if S.down then 12 else if S.armed = 1 then 12 else 0
def turnS (S : St) : St := if S.down then S else if S.armed = 1 then { S with armed := 0, down := true } else { S with armed := S.armed - 1 }
theorem turnS_maps (S : St) : (turnS S).maps = S.maps := by unfold turnS; split; rfl; split <;> rfl
theorem turnS_cur (S : St) : (turnS S).cur = S.cur := by unfold turnS; split; rfl; split <;> rfl
theorem turnS_ids (S : St) : (turnS S).ids = S.ids := by unfold turnS; split; rfl; split <;> rfl
theorem turnS_con (S : St) : (turnS S).con = S.con := by unfold turnS; split; rfl; split <;> rfl
theorem turnS_n (S : St) : (turnS S).n = S.n := by unfold turnS; split; rfl; split <;> rfl
theorem turnS_full (S : St) : (turnS S).full = S.full := by unfold turnS; split; rfl; split <;> rfl
theorem turnS_all (S : St) : (turnS S).all = S.all := by unfold St.all; rw [turnS_maps, turnS_cur]
theorem turnS_armed (S : St) : (turnS S).armed ≤ S.armed := by unfold turnS; split; omega; split <;> simp
theorem turnS_up {S : St} (h : turnE S = 0) : S.down = false ∧ S.armed ≠ 1 ∧ turnS S = { S with armed := S.armed - 1 } := by
  unfold turnE at h
  unfold turnS
  cases hd : S.down with
  | true => simp [hd] at h
  | false =>
    simp only [hd] at h ⊢
    by_cases ha : S.armed = 1
    · simp [ha] at h
    · simp [ha]
theorem Wf.turn {S : St} (h : Wf S) : Wf (turnS S) :=
  ⟨by rw [turnS_ids]; exact h.nodup, by rw [turnS_ids, turnS_con]; exact h.safe, by rw [turnS_all, turnS_ids]; exact h.refs, by rw [turnS_all]; exact h.inj, Nat.le_trans (turnS_armed S) h.armed, by rw [turnS_full]; exact h.full, by rw [turnS_ids, turnS_con]; exact h.lens⟩
section
variable {room : Int} {mb : Nat} {uv : Value} {f t c : Int} {d : Bool}
set_option maxRecDepth 100000 in
set_option maxHeartbeats 2000000 in
theorem vturn0_any (w : World) (g a : Nat) (hb : Blk w g 51 (diskC room mb uv (a : Int) f t c d)) (ha : a ≤ 9223372036854775807) :
    Calls Try.prog 21 #[pg g] w fun e w' => e = .returned (.int .i64 (if d then 12 else if a = 1 then 12 else 0)) ∧
      (∃ t' c', Blk w' g 51 (diskC room mb uv (((if d then a else a - 1 : Nat)) : Int) f t' c' (if d then true else decide (a = 1)))) ∧ Keep (fun j => j = g) w w' := by
  have Hup := Lib.hid (vup_any w g hb)
  have h3 := hb.cell 3
  have h8 := hb.cell 8
  have hf3 := hb.frozen 3
  have hf8 := hb.frozen 8
  have Hb := Lib.hid hb
  clear hb
  cases d with
  | true =>
    go_enter Try.func21, Try.ntmps21
    go_wp2_with fail
    refine Hup.out.mono ?_
    rintro e w' ⟨rfl, rfl⟩
    go_wp2_with fail
    go_ret
    exact ⟨rfl, ⟨_, _, Hb.out⟩, Keep.refl _ _⟩
  | false =>
    have k3 := Keep.setCell w ⟨g, 3, none⟩ (.int .i64 ((a : Int) - 1))
    have b3 : Blk (w.setCell ⟨g, 3, none⟩ (.int .i64 ((a : Int) - 1))) g 51 (diskC room mb uv ((a : Int) - 1) f t c false) := Hb.out.set 3 _
    have hf3b := b3.frozen 3
    have hf8b := b3.frozen 8
    rcases (show a = 1 ∨ a = 0 ∨ ∃ k, a = k + 2 by rcases a with _ | _ | k; exact Or.inr (Or.inl rfl); exact Or.inl rfl; exact Or.inr (Or.inr ⟨k, rfl⟩)) with rfl | rfl | ⟨k, rfl⟩
    · have Hdn := Lib.hid (vdown_any _ g b3)
      have K3 := Lib.hid k3
      clear k3 b3
      go_enter Try.func21, Try.ntmps21
      go_wp2_with fail
      refine Hup.out.mono ?_
      rintro e w' ⟨rfl, rfl⟩
      go_wp2_with fail
      refine Hdn.out.mono ?_
      rintro e w1 ⟨rfl, ⟨c', hb1⟩, hk1⟩
      have Hb1 := Lib.hid hb1
      have Hk1 := Lib.hid (K3.out.trans' hk1)
      clear hb1 hk1
      go_wp2_with fail
      go_ret
      exact ⟨rfl, ⟨_, _, Hb1.out⟩, Hk1.out⟩
    · have B3 := Lib.hid b3
      have K3 := Lib.hid k3
      clear k3 b3
      go_enter Try.func21, Try.ntmps21
      go_wp2_with fail
      refine Hup.out.mono ?_
      rintro e w' ⟨rfl, rfl⟩
      go_wp2_with fail
      go_ret
      have h9 := ((Hb.out.set 3 (.int .i64 (-1))).set 3 (.int .i64 (max (-1) 0))).set 8 (.int .i64 (wrap64 (t + 1)))
      rw [show max (-1 : Int) 0 = 0 from rfl] at h9 ⊢
      exact ⟨rfl, ⟨_, _, h9⟩, ((Keep.setCell w' ⟨g, 3, none⟩ _).trans' (Keep.setCell _ ⟨g, 3, none⟩ _)).trans' (Keep.setCell _ ⟨g, 8, none⟩ _)⟩
    · obtain ⟨x, hx⟩ : ∃ x : Int, x = ((k + 1 : Nat) : Int) := ⟨_, rfl⟩
      have hx1 : (((k + 2 : Nat) : Int)) - 1 = x := by omega
      have hxk : ((k + 2 - 1 : Nat) : Int) = x := by omega
      have hxb : 1 ≤ x ∧ x ≤ 9223372036854775806 := by omega
      have hx0 : (x == 0) = false := by rw [beq_eq_false_iff_ne]; omega
      have hmx : max x 0 = x := by omega
      have hk1 : ((k + 2 : Nat) : Int) = x + 1 := by omega
      rw [hk1] at h3
      rw [hx1] at b3 k3 hf3b hf8b
      have hb0 := Hb.out
      rw [hk1] at hb0
      have Hb0 := Lib.hid hb0
      have hd1 : (if k + 2 = 1 then (12 : Int) else 0) = 0 := by rw [if_neg (by omega)]
      have hd2 : decide (k + 2 = 1) = false := decide_eq_false (by omega)
      simp only [Bool.false_eq_true, if_false, hd1, hd2, hxk]
      clear k3 b3 hk1 hx1 hx Hb ha hxk hd1 hd2 hb0
      go_enter Try.func21, Try.ntmps21
      go_wp2_with fail
      refine Hup.out.mono ?_
      rintro e w' ⟨rfl, rfl⟩
      clear Hup
      go_wp2_with fail
      go_ret
      exact ⟨rfl, ⟨_, _, ((Hb0.out.set 3 (.int .i64 x)).set 3 (.int .i64 x)).set 8 (.int .i64 (wrap64 (t + 1)))⟩, ((Keep.setCell w' ⟨g, 3, none⟩ _).trans' (Keep.setCell _ ⟨g, 3, none⟩ _)).trans' (Keep.setCell _ ⟨g, 8, none⟩ _)⟩
end
theorem vturn_any {w : World} {g base : Nat} {room : Int} {S : St} {M : FM} {mb : Nat} {uv : Value} {fs : List Value} {t c : Int} {rv : Nat → Value} (h : VX w g base room S M mb uv fs t c rv) (ha : S.armed ≤ 9223372036854775807) :
    Calls Try.prog 21 #[pg g] w fun e w' => e = .returned (.int .i64 (turnE S)) ∧ (∃ t' c', VX w' g base room (turnS S) M mb uv fs t' c' rv) ∧ Keep (fun j => j = g) w w' := by
  refine (vturn0_any w g S.armed h.disk ha).mono ?_
  rintro e w' ⟨rfl, ⟨t', c', hb⟩, hk⟩
  refine ⟨rfl, ⟨t', c', h.cells hk ?_ (turnS_maps S) (turnS_cur S) (turnS_ids S) (turnS_con S) (turnS_n S)⟩, hk⟩
  have e1 : (turnS S).armed = (if S.down then S.armed else S.armed - 1) := by
    unfold turnS
    cases hd : S.down with
    | true => simp
    | false =>
      by_cases ha1 : S.armed = 1
      · simp [ha1]
      · simp [ha1]
  have e2 : (turnS S).down = (if S.down then true else decide (S.armed = 1)) := by
    unfold turnS
    cases hd : S.down with
    | true => simp [hd]
    | false =>
      by_cases ha1 : S.armed = 1
      · simp [ha1]
      · simp [ha1]
  rw [e1, e2, turnS_full]
  exact hb
end Go.Proofs.Ytcfhhekklakacaa
