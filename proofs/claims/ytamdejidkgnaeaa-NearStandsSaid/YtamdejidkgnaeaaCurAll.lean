/-
  The walks of cursor's All: the closure that goes through the rest. (NOT CLEAN YET)
-/
import Derived.LoopIn
import Derived.Test.YtamdejidkgnaeaaCurNow
import Derived.Test.YtamdejidkgnaeaaRange
namespace Go.Proofs.Ytamdejidkgnaeaa
open Go.RowKit CurM
set_option linter.unusedVariables false
theorem cAll_any (p : Option Addr) (w : World) : Calls Try.prog 35 #[.pointer p] w fun e w' => e = .returned (.func (.func 44) #[] #[.pointer (some ⟨w.heap.size, 0, none⟩)]) ∧ w.alloc (.cells #[.pointer p] 58) = w' := by
  go_enter Try.func35, Try.ntmps35
  go_wp2
  go_ret
  exact ⟨rfl, rfl⟩
/-- the head of a list, or none -/
def HeadIs (L : List Int) (x : Int) (b : Bool) : Prop := (b = false ∧ L = []) ∨ (b = true ∧ ∃ t, L = x :: t)
theorem headIs (L : List Int) : HeadIs L (L.headD 0) (!L.isEmpty) := by
  cases L with
  | nil => exact Or.inl ⟨rfl, rfl⟩
  | cons x t => exact Or.inr ⟨rfl, t, rfl⟩
theorem now_head {d : Nat} {w : World} {v : Value} {L : List Int} {F : Nat → Prop} (h : Cur d w v L F) : ∃ (x : Int) (b : Bool), HeadIs L x b ∧ Calls Try.prog 45 #[v] w fun e w' => e = .returned (.tuple #[.int .i64 x, .bool b]) ∧ CurTo d w v L F w' :=
  ⟨_, _, headIs L, (curOk d).now w v L F h⟩
/-- what is left of the rounds: numbers rise -/
def curMeas (x b : Value) : Nat :=
  match b with
  | .bool true => (9223372036854775807 - intOf x).toNat + 1
  | _ => 0
set_option maxRecDepth 100000 in
set_option maxHeartbeats 4000000 in
theorem cAll1_any (d m : Nat) (hm : 1 ≤ m) (lp Bx : Nat) (p : Option Addr) (L0 : List Int) (J : Nat → (Nat → Prop) → World → Prop) (JN : World → Prop)
    (hY : ∀ (k : Nat) (x : Int) (F : Nat → Prop) (W : World), L0[k]? = some x → J k F W → Cur d W (.pointer p) (L0.drop k) F → Boxed W Bx 58 (.pointer p) → ¬ F Bx →
      YieldAt Fence.wide (m - 1) Try.prog lp #[.int .i64 x] W fun e W' => (e = .returned (.bool true) ∧ J (k + 1) F W' ∧ Cur d W' (.pointer p) (L0.drop k) F ∧ Boxed W' Bx 58 (.pointer p)) ∨ (e = .returned (.bool false) ∧ JN W'))
    (hS : ∀ (k : Nat) (F F' : Nat → Prop) (W W' : World), J k F W → Keep F W W' → (∀ j, F' j → F j ∨ W.heap.size ≤ j) → J k F' W')
    (W : World) (F : Nat → Prop) (h : Cur d W (.pointer p) L0 F) (hBx : Boxed W Bx 58 (.pointer p)) (hn : ¬ F Bx) (h0 : J 0 F W) :
    CallsIn Fence.wide m Try.prog 44 #[.func (.yield lp) #[] #[], .pointer (some ⟨Bx, 0, none⟩)] W fun e W' => (∃ v, e = .returned v) ∧ ((∃ F', J L0.length F' W' ∧ Cur d W' (.pointer p) [] F') ∨ JN W') := by
  refine callsIn_of_wp Try.func44 rfl trivial ?_ rfl
  simp only [Try.ntmps44, List.size_toArray, List.length_cons, List.length_nil, Nat.reduceAdd, Nat.reduceSub, Array.replicate_succ, Array.replicate_zero, List.push_toArray, List.append_toArray, List.nil_append, List.cons_append]
  have HY := Lib.hid hY
  have HS := Lib.hid hS
  have H0 := Lib.hid h0
  have Hn := Lib.hid hn
  have hc0 := hBx.cell
  have Hbx := Lib.hid hBx
  obtain ⟨x0, b0, hx0, hnow⟩ := now_head h
  have Hnow := Lib.hid hnow
  have Ht := Lib.hid hx0
  clear hY hS h0 hn hBx h hnow hx0
  gi_wp2_with (refine ⟨trivial, ?_⟩; gi_at_call 45; refine (callsIn_wide.2 Hnow.out).mono ?_; rintro e w1 ⟨rfl, F1, h1, k1, f1⟩)
  have HJ := Lib.hid (HS.out 0 F F1 W w1 H0.out k1 f1)
  have Hb1 := Lib.hid (show Blk w1 Bx 58 #[.pointer p] from k1.blk (show Blk W Bx 58 #[.pointer p] from Hbx.out) Hn.out)
  have Hn1 := Lib.hid (show ¬ F1 Bx from fun hb => by
    rcases f1 _ hb with h2 | h2
    · exact Hn.out h2
    · have := Hbx.out.lt
      omega)
  have H1 := Lib.hid h1
  clear k1 f1 h1 H0 Hn Hbx Hnow hc0
  gi_loopw [3, 4] (fun v3 v4 wr => ∃ (k : Nat) (F : Nat → Prop) (x : Int) (b : Bool), k ≤ L0.length ∧ v3 = .int .i64 x ∧ v4 = .bool b ∧ Hid (HeadIs (L0.drop k) x b) ∧ Hid (J k F wr) ∧ Hid (Cur d wr (.pointer p) (L0.drop k) F) ∧ Hid (Blk wr Bx 58 #[.pointer p]) ∧ Hid (¬ F Bx)) (fun v3 v4 wr => curMeas v3 v4)
  case atStart => exact ⟨0, F1, x0, b0, by omega, rfl, rfl, Ht, HJ, H1, Hb1, Hn1⟩
  case round =>
    obtain ⟨k, F2, x, b, hk, rfl, rfl, ht, hj, hc, hb, hn⟩ := hrel
    rcases ht.out with ⟨rfl, hd⟩ | ⟨rfl, t, hd⟩
    · have hkL : k = L0.length := by
        have h1 := List.drop_eq_nil_iff.1 hd
        omega
      have Hfin := Lib.hid (show (∃ F', J L0.length F' wr ∧ Cur d wr (.pointer p) [] F') from ⟨F2, by rw [← hkL]; exact hj.out, by rw [← hd]; exact hc.out⟩)
      clear hd hkL
      gi_wp2_with (refine ⟨(fun _ h => by cases h), ?_⟩)
      go_end0
      exact ⟨⟨_, rfl⟩, Or.inl Hfin.out⟩
    · have hx : L0[k]? = some x := by
        have h1 : (L0.drop k)[0]? = some x := by rw [hd]; rfl
        rw [List.getElem?_drop] at h1
        simpa using h1
      have hklt : k < L0.length := (List.getElem?_eq_some_iff.1 hx).1
      have htl : t = L0.drop (k + 1) := by
        have h1 : (L0.drop k).tail = L0.drop (k + 1) := by rw [List.tail_drop]
        rw [hd] at h1
        exact h1
      obtain ⟨fn, tmps, assign, body, hy, hR⟩ := HY.out k x F2 wr hx hj.out hc.out hb.out hn.out
      have Hd := Lib.hid hd
      have Htl := Lib.hid htl
      clear hx hd htl
      gi_wp2_with fail
      refine hR.mono ?_
      rintro e w3 h3
      rcases h3 with ⟨rfl, hj3, hc3, hb3⟩ | ⟨rfl, hj3⟩
      · have hcell := hb3.cell
        have Hj3 := Lib.hid hj3
        have Hc3 := Lib.hid hc3
        have Hb3 := Lib.hid hb3
        rw [Hd.out] at hc3
        have Hnx := Lib.hid (next_any (curOk d) w3 _ _ F2 hc3)
        clear hR hy hj3 hc3 hb3
        gi_wp2_with fail
        refine ⟨trivial, ?_⟩
        gi_at_call 46
        refine (callsIn_wide.2 Hnx.out).mono ?_
        rintro e w4 ⟨rfl, F4, h4, k4, f4⟩
        clear hcell
        have hb4 : Blk w4 Bx 58 #[.pointer p] := k4.blk (show Blk w3 Bx 58 #[.pointer p] from Hb3.out) hn.out
        have hn4 : ¬ F4 Bx := fun hb => by
          rcases f4 _ hb with h2 | h2
          · exact hn.out h2
          · have := Hb3.out.lt
            omega
        have HJ4 := Lib.hid (HS.out _ F2 F4 w3 w4 Hj3.out k4 f4)
        rw [show (x :: t).tail = L0.drop (k + 1) from Htl.out] at h4
        obtain ⟨y, c, hy0, hnow⟩ := now_head h4
        have Hnow := Lib.hid hnow
        have Hy0 := Lib.hid hy0
        have H4w := Lib.hid h4.wide
        have hcell := hb4.cell 0
        have Hb4 := Lib.hid hb4
        have Hn4 := Lib.hid hn4
        have Hup := Lib.hid (show ∀ z s, t = z :: s → x < z from fun z s e => by
          have h1 : Up (x :: t) := by rw [← Hd.out]; exact hc.out.up
          exact (up_cons.1 h1).1 z (by rw [e]; simp))
        clear hnow hy0 h4 k4 f4 hb4 hn4 Hnx
        gi_wp2_with fail
        refine ⟨trivial, ?_⟩
        gi_at_call 45
        refine (callsIn_wide.2 Hnow.out).mono ?_
        rintro e w5 ⟨rfl, F5, h5, k5, f5⟩
        have HJ5 := Lib.hid (HS.out _ F4 F5 w4 w5 HJ4.out k5 f5)
        have Hb5 := Lib.hid (show Blk w5 Bx 58 #[.pointer p] from k5.blk (show Blk w4 Bx 58 #[.pointer p] from Hb4.out) Hn4.out)
        have Hn5 := Lib.hid (show ¬ F5 Bx from fun hb => by
          rcases f5 _ hb with h2 | h2
          · exact Hn4.out h2
          · have := Hb4.out.lt
            omega)
        have H5 := Lib.hid h5
        clear k5 f5 h5 hcell Hnow
        gi_wp2_with fail
        go_roundw
        case rel => exact ⟨k + 1, F5, y, c, by omega, rfl, rfl, Hy0, HJ5, H5, Hb5, Hn5⟩
        case measure =>
          rcases Hy0.out with ⟨rfl, h1⟩ | ⟨rfl, s, h1⟩
          · exact Nat.succ_pos _
          · have h2 := Hup.out y s (Htl.out.trans h1)
            have h3 := (H4w.out y (by rw [h1]; simp)).2
            simp only [curMeas, intOf]
            omega
      · have Hfin := Lib.hid hj3
        clear hR hy hj3
        gi_wp2
        go_end0
        exact ⟨⟨_, rfl⟩, Or.inr Hfin.out⟩
end Go.Proofs.Ytamdejidkgnaeaa
