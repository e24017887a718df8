/-
  The walks of a disk's look, New, Crash, Arm, Full.
-/
import Derived.Test.YtcfhhekklakacaaVfsWaits
namespace Go.Proofs.Ytcfhhekklakacaa
open Go.RowKit
set_option linter.unusedVariables false
/-- what a look at a file tells -/
def lookV (S : St) (M : FM) (l : List UInt8) : Value × Int := if S.down then (pf none, 12) else match M l with
  | some id => (pf (some id), 0)
  | none => (pf none, 10)
set_option maxRecDepth 100000 in
set_option maxHeartbeats 1000000 in
theorem vlook_any (w : World) (g base : Nat) (room : Int) (S : St) (M : FM) (mb : Nat) (uv : Value) (fs : List Value) (t c : Int) (rv : Nat → Value) (h : VX w g base room S M mb uv fs t c rv) (name : ByteArray) (hs : name.size ≤ maxLen) :
    Calls Try.prog 40 #[pg g, .string name] w fun e w' => e = .returned (.tuple #[(lookV S M name.data.toList).1, .int .i64 (lookV S M name.data.toList).2]) ∧ w' = w := by
  have Hup := Lib.hid (vup_any w g h.disk)
  have h1 := h.disk.cell 1
  have hl := h.map.look name hs
  unfold lookV
  cases hd : S.down with
  | true =>
    rw [hd] at Hup
    clear hl h1 h
    go_enter Try.func40, Try.ntmps40
    go_wp2_with fail
    refine Hup.out.mono ?_
    rintro e w' ⟨rfl, rfl⟩
    go_wp2_with fail
    refine bodyPost_ret (results_tmp2 rfl _ _ _) rfl ?_
    exact ⟨rfl, rfl⟩
  | false =>
    rw [hd] at Hup
    cases hM : M name.data.toList with
    | none =>
      rw [hM] at hl
      simp only [Option.map_none, Option.isSome_none] at hl
      clear h hd hM
      go_enter Try.func40, Try.ntmps40
      go_wp2_with fail
      refine Hup.out.mono ?_
      rintro e w' ⟨rfl, rfl⟩
      go_wp2_with fail
      refine bodyPost_ret (results_tmp2 rfl _ _ _) rfl ?_
      exact ⟨rfl, rfl⟩
    | some id =>
      rw [hM] at hl
      simp only [Option.map_some, Option.isSome_some] at hl
      clear h hd hM
      go_enter Try.func40, Try.ntmps40
      go_wp2_with fail
      refine Hup.out.mono ?_
      rintro e w' ⟨rfl, rfl⟩
      go_wp2_with fail
      refine bodyPost_ret (results_tmp2 rfl _ _ _) rfl ?_
      exact ⟨rfl, rfl⟩
/-- a disk that was just made -/
def newS : St := { cur := fun _ => none, maps := [], ids := [], con := fun _ => ([], 0), armed := 0, full := 0, down := false, n := 0 }
theorem newS_all {M : FM} (h : M ∈ newS.all) (l : List UInt8) : M l = none := by
  obtain rfl : M = fun _ => none := by simpa [newS, St.all] using h
  rfl
theorem newS_wf : Wf newS where
  nodup := List.nodup_nil
  safe := fun id h => by simp [newS] at h
  refs := fun M hM l id h => by
    rw [newS_all hM] at h
    cases h
  inj := fun M hM l l' id h => by
    rw [newS_all hM] at h
    cases h
  armed := Nat.zero_le _
  full := Nat.zero_le _
  lens := fun id h => by simp [newS] at h
set_option maxRecDepth 100000 in
set_option maxHeartbeats 1000000 in
theorem vNew_any (w : World) (room : Int) (h0 : 0 ≤ room) (h1 : room ≤ 67108864) :
    Calls Try.prog 6 #[.int .i64 room] w fun e w' => e = .returned (.tuple #[pg (w.heap.size + 1), .int .i64 0]) ∧ VAt w' (w.heap.size + 1) w.heap.size room newS ∧ Grow w w' := by
  have d1 : decide (room < 0) = false := decide_eq_false (by omega)
  have d2 : decide (67108864 < room) = false := decide_eq_false (by omega)
  have hmk : (Instr.makeMap 46 none).run Try.prog w = .ok (.map (some w.heap.size)) (w.alloc (.map #[] 0)) := rfl
  go_enter Try.func6, Try.ntmps6
  go_wp2
  refine bodyPost_ret (results_tmp2 rfl _ _ _) rfl ?_
  have hz : (w.alloc (.map #[] 0)).heap.size = w.heap.size + 1 := by simp
  have hb := Blk.new (w.alloc (.map #[] 0)) 51 (diskC room w.heap.size (.slice none 0 0) 0 0 0 0 false)
  rw [hz] at hb
  refine ⟨rfl, ⟨newS_wf, w.heap.size, .slice none 0 0, [], 0, 0, fun _ => .slice none 0 0, hb, by omega, Nat.le_refl _, (FMapAt.made w).grow (Grow.alloc _ _), World.ownsRow_nil _ _ _ _, rfl, fun i f M1 M2 h => by simp at h, fun id h => by simp [newS] at h, fun id h => by simp [newS] at h, fun id h => by simp [newS] at h⟩, (Grow.alloc _ _).trans (Grow.alloc _ _)⟩
set_option maxRecDepth 100000 in
set_option maxHeartbeats 1000000 in
theorem vCrash_any (w : World) (g base : Nat) (room : Int) (S : St) (h : VAt w g base room S) (hb : base ≤ w.heap.size) :
    Calls Try.prog 11 #[pg g] w fun e w' => e = .returned (.int .i64 (if S.down then 12 else 0)) ∧ VAt w' g base room { S with down := true } ∧ Below base w w' := by
  obtain ⟨hw, mb, uv, fs, t, c, rv, hx⟩ := h
  have Hup := Lib.hid (vup_any w g hx.disk)
  have Hdn := Lib.hid (vdown_any w g hx.disk)
  have Hx := Lib.hid hx
  have Hw := Lib.hid hw
  clear hx hw
  cases hd : S.down with
  | true =>
    rw [hd] at Hup
    have Hd := Lib.hid hd
    clear Hdn hd
    go_enter Try.func11, Try.ntmps11
    go_wp2_with fail
    refine Hup.out.mono ?_
    rintro e w' ⟨rfl, rfl⟩
    go_wp2_with fail
    go_ret
    have e : ({ S with down := true } : St) = S := by rw [← Hd.out]
    rw [e]
    exact ⟨rfl, ⟨Hw.out, mb, uv, fs, t, c, rv, Hx.out⟩, Below.refl _ _⟩
  | false =>
    rw [hd] at Hup
    clear hd
    go_enter Try.func11, Try.ntmps11
    go_wp2_with fail
    refine Hup.out.mono ?_
    rintro e w' ⟨rfl, rfl⟩
    go_wp2_with fail
    refine Hdn.out.mono ?_
    rintro e w2 ⟨rfl, ⟨c', hb2⟩, hk2⟩
    have hx2 := Hx.out.cells (S' := { S with down := true }) hk2 hb2 rfl rfl rfl rfl rfl
    have Hx2 := Lib.hid hx2
    have Hk2 := Lib.hid hk2
    clear hx2 hb2 hk2
    go_wp2_with fail
    go_ret
    exact ⟨rfl, ⟨⟨Hw.out.nodup, Hw.out.safe, Hw.out.refs, Hw.out.inj, Hw.out.armed, Hw.out.full, Hw.out.lens⟩, mb, uv, fs, t, c', rv, Hx2.out⟩, Hk2.out.below (fun j hj => by rw [hj]; exact Hx.out.ge) hb⟩
/-- a number from 0 on -/
def posN (n : Int) : Nat := n.toNat
def St.arm (S : St) (n : Int) : St := if S.down then S else { S with armed := posN n }
def St.fill (S : St) (n : Int) : St := if S.down then S else { S with full := posN n }
set_option maxRecDepth 100000 in
set_option maxHeartbeats 1000000 in
theorem vArm_any (w : World) (g base : Nat) (room : Int) (S : St) (n : Int) (h : VAt w g base room S) (hb : base ≤ w.heap.size) (hn : n ≤ 9223372036854775807) :
    Calls Try.prog 17 #[pg g, .int .i64 n] w fun e w' => e = .returned (.tuple #[]) ∧ VAt w' g base room (S.arm n) ∧ Below base w w' := by
  obtain ⟨hw, mb, uv, fs, t, c, rv, hx⟩ := h
  have Hup := Lib.hid (vup_any w g hx.disk)
  have h3 := hx.disk.cell 3
  have hf3 := hx.disk.frozen 3
  have Hx := Lib.hid hx
  have Hw := Lib.hid hw
  clear hx hw
  cases hd : S.down with
  | true =>
    rw [hd] at Hup
    have he : S.arm n = S := by simp [St.arm, hd]
    rw [he]
    clear he hd h3 hf3
    go_enter Try.func17, Try.ntmps17
    go_wp2_with fail
    refine Hup.out.mono ?_
    rintro e w' ⟨rfl, rfl⟩
    go_wp2_with fail
    refine Go.Great.bodyPost_end0 rfl rfl ?_
    exact ⟨rfl, ⟨Hw.out, mb, uv, fs, t, c, rv, Hx.out⟩, Below.refl _ _⟩
  | false =>
    rw [hd] at Hup
    obtain ⟨x, hx⟩ : ∃ x : Int, x = ((posN n : Nat) : Int) := ⟨_, rfl⟩
    have hmx : max n 0 = x := by rw [hx]; unfold posN; omega
    have Hxx := Lib.hid hx
    have he : S.arm n = { S with armed := posN n } := by simp [St.arm, hd]
    rw [he]
    clear he hd hx
    go_enter Try.func17, Try.ntmps17
    go_wp2_with fail
    refine Hup.out.mono ?_
    rintro e w' ⟨rfl, rfl⟩
    clear Hup
    go_wp2_with fail
    refine Go.Great.bodyPost_end0 rfl rfl ?_
    have hb2 := Hx.out.disk.set 3 (.int .i64 x)
    rw [Hxx.out] at hb2 ⊢
    have hk := Keep.setCell w' ⟨g, 3, none⟩ (.int .i64 ((posN n : Nat) : Int))
    exact ⟨rfl, ⟨⟨Hw.out.nodup, Hw.out.safe, Hw.out.refs, Hw.out.inj, by show posN n ≤ _; unfold posN; omega, Hw.out.full, Hw.out.lens⟩, mb, uv, fs, t, c, rv, Hx.out.cells (S' := { S with armed := posN n }) hk hb2 rfl rfl rfl rfl rfl⟩, hk.below (fun j hj => by rw [show j = g from hj]; exact Hx.out.ge) hb⟩
set_option maxRecDepth 100000 in
set_option maxHeartbeats 1000000 in
theorem vFull_any (w : World) (g base : Nat) (room : Int) (S : St) (n : Int) (h : VAt w g base room S) (hb : base ≤ w.heap.size) (hn : n ≤ 9223372036854775807) :
    Calls Try.prog 18 #[pg g, .int .i64 n] w fun e w' => e = .returned (.tuple #[]) ∧ VAt w' g base room (S.fill n) ∧ Below base w w' := by
  obtain ⟨hw, mb, uv, fs, t, c, rv, hx⟩ := h
  have Hup := Lib.hid (vup_any w g hx.disk)
  have h4 := hx.disk.cell 4
  have hf4 := hx.disk.frozen 4
  have Hx := Lib.hid hx
  have Hw := Lib.hid hw
  clear hx hw
  cases hd : S.down with
  | true =>
    rw [hd] at Hup
    have he : S.fill n = S := by simp [St.fill, hd]
    rw [he]
    clear he hd h4 hf4
    go_enter Try.func18, Try.ntmps18
    go_wp2_with fail
    refine Hup.out.mono ?_
    rintro e w' ⟨rfl, rfl⟩
    go_wp2_with fail
    refine Go.Great.bodyPost_end0 rfl rfl ?_
    exact ⟨rfl, ⟨Hw.out, mb, uv, fs, t, c, rv, Hx.out⟩, Below.refl _ _⟩
  | false =>
    rw [hd] at Hup
    obtain ⟨x, hx⟩ : ∃ x : Int, x = ((posN n : Nat) : Int) := ⟨_, rfl⟩
    have hmx : max n 0 = x := by rw [hx]; unfold posN; omega
    have Hxx := Lib.hid hx
    have he : S.fill n = { S with full := posN n } := by simp [St.fill, hd]
    rw [he]
    clear he hd hx
    go_enter Try.func18, Try.ntmps18
    go_wp2_with fail
    refine Hup.out.mono ?_
    rintro e w' ⟨rfl, rfl⟩
    clear Hup
    go_wp2_with fail
    refine Go.Great.bodyPost_end0 rfl rfl ?_
    have hb2 := Hx.out.disk.set 4 (.int .i64 x)
    rw [Hxx.out] at hb2 ⊢
    have hk := Keep.setCell w' ⟨g, 4, none⟩ (.int .i64 ((posN n : Nat) : Int))
    exact ⟨rfl, ⟨⟨Hw.out.nodup, Hw.out.safe, Hw.out.refs, Hw.out.inj, Hw.out.armed, by show posN n ≤ _; unfold posN; omega, Hw.out.lens⟩, mb, uv, fs, t, c, rv, Hx.out.cells (S' := { S with full := posN n }) hk hb2 rfl rfl rfl rfl rfl⟩, hk.below (fun j hj => by rw [show j = g from hj]; exact Hx.out.ge) hb⟩
end Go.Proofs.Ytcfhhekklakacaa
