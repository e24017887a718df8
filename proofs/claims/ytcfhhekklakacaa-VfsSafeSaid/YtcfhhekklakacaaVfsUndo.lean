/-
  What undoes a change, whichever; the walks of slices.Backward over the changes.
-/
import Derived.Test.YtcfhhekklakacaaVfsTear
import Derived.Test.YtcfhhekklakacaaRange
import Derived.LoopIn
import Derived.Shelf.Abstract
import Derived.OwnWalkIn
import Derived.TacticsInMore
import Derived.RangeFuncBox
import Derived.RangeFuncCalls
namespace Go.Proofs.Ytcfhhekklakacaa
open Go.RowKit Go.Shelf
set_option linter.unusedVariables false
theorem vundo_any (w : World) (g mb n : Nat) (f : Value) (M2 M1 : FM) (hU : UOk w g f M2 M1) {cs : Array Value} (hg : Blk w g 51 cs) (hc : cs[1]? = some (.map (some mb))) (hm : FMapAt w mb n M2) (hn : n + 1 < maxLen) :
    ∃ k caps, f = .func (.func k) #[] caps ∧ (∀ args W, (callFunc k args).run Try.prog W = .ok (.enter k args) W) ∧ Calls Try.prog k caps w fun e w' => e = .returned (.tuple #[]) ∧ FMapAt w' mb (n + 2) M1 ∧ Keep (fun j => j = mb) w w' := by
  cases hU with
  | create h1 h2 hs =>
    refine ⟨_, _, rfl, fun _ _ => rfl, (vCreate1_any w g mb _ _ n _ M2 h1 h2 hs hg hc hm).mono ?_⟩
    rintro e w' ⟨rfl, h, hk⟩
    exact ⟨rfl, h.more (by omega), hk⟩
  | remove h0 h1 h2 hs =>
    refine ⟨_, _, rfl, fun _ _ => rfl, (vRemove2_any w g mb _ _ _ n _ _ M2 h0 h1 h2 hs hg hc hm (by omega)).mono ?_⟩
    rintro e w' ⟨rfl, h, hk⟩
    exact ⟨rfl, h.more (by omega), hk⟩
  | rename h1 h2 h3 h4 h5 h6 hs ht =>
    refine ⟨_, _, rfl, fun _ _ => rfl, (vRename2_any w g mb _ _ _ _ _ _ n _ _ _ _ M2 h1 h2 h3 h4 h5 h6 hs ht hg hc hm hn).mono ?_⟩
    rintro e w' ⟨rfl, h, hk⟩
    exact ⟨rfl, h, hk⟩
theorem vBackward_any (A : Option Addr) (n c : Nat) (w : World) : Calls Try.prog 34 #[.slice A n c] w fun e w' => e = .returned (.func (.func 44) #[] #[.pointer (some ⟨w.heap.size, 0, none⟩)]) ∧ w.alloc (.cells #[.slice A n c] 47) = w' := by
  go_enter Try.func34, Try.ntmps34
  go_wp2
  go_ret
  exact ⟨rfl, rfl⟩
set_option maxRecDepth 100000 in
set_option maxHeartbeats 4000000 in
theorem vBack1_any (m : Nat) (hm : 1 ≤ m) (lp Bx B : Nat) (A : Option Addr) (n c : Nat) (xs : List Value) (hnc : n ≤ c) (hcm : n ≤ 1000000) (hf : ∀ x ∈ xs, ∃ k caps, x = .func (.func k) #[] caps) (J : Nat → World → Prop)
    (hY : ∀ (k : Nat) (f : Value) (W : World), xs[k]? = some f → J (k + 1) W → Boxed W Bx 47 (.slice A n c) → ReadsAt W B 1 A n xs →
      YieldAt Fence.wide (m - 1) Try.prog lp #[.int .i64 (k : Int), f] W fun e W' => e = .returned (.bool true) ∧ J k W' ∧ Boxed W' Bx 47 (.slice A n c) ∧ ReadsAt W' B 1 A n xs)
    (W : World) (hR : ReadsAt W B 1 A n xs) (hBx : Boxed W Bx 47 (.slice A n c)) (h0 : J n W) :
    CallsIn Fence.wide m Try.prog 44 #[.func (.yield lp) #[] #[], .pointer (some ⟨Bx, 0, none⟩)] W fun e W' => (∃ v, e = .returned v) ∧ J 0 W' := by
  refine callsIn_of_wp Try.func44 rfl trivial ?_ rfl
  simp only [Try.ntmps44, List.size_toArray, List.length_cons, List.length_nil, Nat.reduceAdd, Nat.reduceSub, Array.replicate_succ, Array.replicate_zero, List.push_toArray, List.append_toArray, List.nil_append, List.cons_append]
  have HY := Lib.hid hY
  have H0 := Lib.hid h0
  have Hb := Lib.hid hR
  have hc0 := hBx.cell
  have Hbx := Lib.hid hBx
  have Hlen := Lib.hid hR.1
  have Hf := Lib.hid hf
  have hwr : IntKind.i64.wrap ((n : Int) - 1) = (n : Int) - 1 := IntWalk.i64_in _ (by omega)
  clear hY h0 hR hBx hf
  gi_wp2_with fail
  gi_loopw [3] (fun v3 wr => ∃ (k : Nat), k ≤ n ∧ v3 = .int .i64 ((k : Int) - 1) ∧ Hid (J k wr) ∧ Hid (Boxed wr Bx 47 (.slice A n c)) ∧ Hid (ReadsAt wr B 1 A n xs)) (fun v3 wr => (intOf v3 + 1).toNat)
  case atStart => exact ⟨n, by omega, rfl, H0, Hbx, Hb⟩
  case round =>
    obtain ⟨k, hk, rfl, hj, hbx, hb⟩ := hrel
    have hcell := hbx.out.cell
    cases k with
    | zero =>
      have Hfin := Lib.hid hj.out
      clear hj hcell hc0
      rw [show ((0 : Nat) : Int) - 1 = -1 from rfl]
      gi_wp2_with fail
      go_end0
      exact ⟨⟨_, rfl⟩, Hfin.out⟩
    | succ k =>
      rw [show ((k + 1 : Nat) : Int) - 1 = (k : Int) by omega]
      obtain ⟨f, hx⟩ : ∃ f, xs[k]? = some f := ⟨_, List.getElem?_eq_getElem (by rw [Hlen.out]; omega)⟩
      obtain ⟨kf, caps, rfl⟩ := Hf.out f (List.mem_of_getElem? hx)
      obtain ⟨fn, tmps, assign, body, hy, hR⟩ := HY.out k _ wr hx hj.out hbx.out hb.out
      obtain ⟨b0, off, rfl, hlt, hcs⟩ := hb.out.2 (by omega)
      have hcf := hcs k _ hx
      have hkn : k < n := by omega
      clear hcs hc0 hx
      gi_wp2_with fail
      refine hR.mono ?_
      rintro e w3 ⟨rfl, hj3, hbx3, hb3⟩
      have Hj3 := Lib.hid hj3
      have Hbx3 := Lib.hid hbx3
      have Hb3 := Lib.hid hb3
      clear hR hy hj3 hbx3 hb3 hcell hcf
      gi_wp2_with fail
      go_roundw
      case rel => exact ⟨k, by omega, rfl, Hj3, Hbx3, Hb3⟩
      case measure =>
        simp only [intOf]
        omega
end Go.Proofs.Ytcfhhekklakacaa
