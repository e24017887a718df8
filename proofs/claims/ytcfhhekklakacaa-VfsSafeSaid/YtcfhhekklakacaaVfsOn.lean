/-
  The walk of a disk's on, over any closure.
-/
import Derived.Test.YtcfhhekklakacaaVfsCreate
namespace Go.Proofs.Ytcfhhekklakacaa
open Go.RowKit
set_option linter.unusedVariables false
set_option maxRecDepth 100000 in
set_option maxHeartbeats 2000000 in
theorem von_any (w : World) (g base : Nat) (room : Int) (S : St) (h : VAt w g base room S) (name : ByteArray) (hs : name.size ≤ maxLen) (k : Nat) (caps : Array Value) (hcf : ∀ args W, (callFunc k args).run Try.prog W = .ok (.enter k args) W) (R : Int → World → Prop)
    (h1 : turnE S ≠ 0 → ∀ W, VAt W g base room (turnS S) → Keep (fun j => j = g) w W → R (turnE S) W)
    (h2 : turnE S = 0 → S.cur name.data.toList = none → ∀ W, VAt W g base room (turnS S) → Keep (fun j => j = g) w W → R 10 W)
    (h3 : turnE S = 0 → ∀ id, S.cur name.data.toList = some id → ∀ W mb uv fs t c rv, Wf (turnS S) → VX W g base room (turnS S) (turnS S).cur mb uv fs t c rv → Keep (fun j => j = g) w W → Calls Try.prog k (#[pg id] ++ caps) W fun e w' => ∃ x, e = .returned (.int .i64 x) ∧ R x w') :
    Calls Try.prog 25 #[pg g, .string name, .func (.func k) #[] caps] w fun e w' => ∃ x, e = .returned (.int .i64 x) ∧ R x w' := by
  obtain ⟨hw, mb, uv, fs, t, c, rv, hx⟩ := h
  have Hturn := Lib.hid (vturn_any hx hw.armed)
  have Hwt := Lib.hid hw.turn
  have H1 := Lib.hid h1
  have H2 := Lib.hid h2
  have H3 := Lib.hid h3
  clear hx hw h1 h2 h3
  go_enter Try.func25, Try.ntmps25
  go_wp2_with fail
  refine Hturn.out.mono ?_
  rintro e w3 ⟨rfl, ⟨t3, c3, hx3⟩, hk3⟩
  rw [← turnS_cur S] at hx3
  have Hx3 := Lib.hid hx3
  have Hk3 := Lib.hid hk3
  have hl := hx3.map.look name hs
  have hc1 := hx3.disk.cell 1
  clear hx3 hk3 Hturn
  by_cases ht : turnE S = 0
  · have Ht := Lib.hid ht
    rw [ht]
    clear ht
    cases hM : (turnS S).cur name.data.toList with
    | none =>
      rw [hM] at hl
      simp only [Option.map_none, Option.isSome_none] at hl
      have HM := Lib.hid hM
      clear hM
      go_wp2_with fail
      go_ret
      exact ⟨_, rfl, H2.out Ht.out (by rw [← turnS_cur]; exact HM.out) _ ⟨Hwt.out, mb, uv, fs, t3, c3, rv, Hx3.out⟩ Hk3.out⟩
    | some id =>
      rw [hM] at hl
      simp only [Option.map_some, Option.isSome_some] at hl
      have HM := Lib.hid hM
      clear hM
      go_wp2_with fail
      refine (H3.out Ht.out id (by rw [← turnS_cur]; exact HM.out) _ _ _ _ _ _ _ Hwt.out Hx3.out Hk3.out).mono ?_
      rintro e w4 ⟨x, rfl, hr⟩
      have Hr := Lib.hid hr
      clear hr
      go_wp2_with fail
      go_ret
      exact ⟨_, rfl, Hr.out⟩
  · go_wp2_with fail
    go_ret
    exact ⟨_, rfl, H1.out ht _ ⟨Hwt.out, mb, uv, fs, t3, c3, rv, Hx3.out⟩ Hk3.out⟩
end Go.Proofs.Ytcfhhekklakacaa
