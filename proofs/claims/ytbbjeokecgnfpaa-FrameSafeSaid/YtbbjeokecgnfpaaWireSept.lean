/-
  The walks of wire.septets: the closure that goes through a number's bytes.
-/
import Derived.Test.YtbbjeokecgnfpaaProg
import Derived.Outline
import Derived.Shelf.Abstract
import Derived.Shelf.RegionOpen
import Derived.OwnWalkIn
import Derived.TacticsInMore
import Derived.LoopNIn
import Derived.LoopIn
import Derived.Lib.Hide
import Derived.Test.YtbbjeokecgnfpaaRange
import Derived.Test.YtbbjeokecgnfpaaMem
import Derived.Test.YtbbjeokecgnfpaaCut
import Derived.Test.YtbbjeokecgnfpaaWireMath
namespace Go.Proofs.Ytbbjeokecgnfpaa
open Go.RowKit Go.Shelf WireM
attribute [local go_sem] Oper.semAt_some

theorem septets_any (m : Int) (w : World) : Calls Try.prog 31 #[.int .i64 m] w fun e w' => e = .returned (.func (.func 39) #[] #[.pointer (some ⟨w.heap.size, 0, none⟩)]) ∧ w.alloc (.cells #[.int .i64 m] 3) = w' := by
  go_enter Try.func31, Try.ntmps31
  go_wp2
  go_ret
  exact ⟨rfl, rfl⟩

set_option maxRecDepth 10000 in
theorem or128 : ∀ x : Fin 256, x.val ||| 128 = x.val % 128 + 128 := by decide
theorem or_byte (r : Nat) : bits BinOp.or IntKind.u8 ((r : Int) % 256) 128 = ((UInt8.ofNat (r % 128 + 128)).toNat : Int) := by
  have e1 : ((r : Int) % 256) = ((r % 256 : Nat) : Int) := by omega
  have e2 := u8_or_nat (r % 256) 128 (Nat.mod_lt _ (by omega)) (by omega)
  have e3 : r % 256 ||| 128 = r % 256 % 128 + 128 := or128 ⟨r % 256, Nat.mod_lt _ (by omega)⟩
  have e4 : r % 256 % 128 = r % 128 := Nat.mod_mod_of_dvd r ⟨2, rfl⟩
  have e5 : (UInt8.ofNat (r % 128 + 128)).toNat = r % 128 + 128 := by rw [UInt8.toNat_ofNat']; exact Nat.mod_eq_of_lt (by omega)
  rw [e1, show (128 : Int) = ((128 : Nat) : Int) from rfl, e2, e3, e4, e5]
theorem last_byte (r : Nat) (h : r < 128) : (r : Int) = ((UInt8.ofNat r).toNat : Int) := by
  rw [UInt8.toNat_ofNat', Nat.mod_eq_of_lt (by omega)]

/-- what the loop of the bytes holds: r is left, k are through -/
structure Rest (m k r : Nat) : Prop where
  len : k + (enc r).length = (enc m).length
  at_ : ∀ i x, (enc r)[i]? = some x → (enc m)[k + i]? = some x
  le : r ≤ m
theorem Rest.zero (m : Nat) : Rest m 0 m := ⟨by omega, fun i x h => by rwa [Nat.zero_add], Nat.le_refl _⟩
theorem Rest.next {m k r : Nat} (h : Rest m k r) (hr : 128 ≤ r) : Rest m (k + 1) (r / 128) := by
  have e := enc_big hr
  refine ⟨by have := h.len; rw [e, List.length_cons] at this; omega, fun i x hx => ?_, Nat.le_trans (Nat.div_le_self _ _) h.le⟩
  have := h.at_ (i + 1) x (by rw [e]; simpa using hx)
  rwa [show k + (i + 1) = k + 1 + i by omega] at this
theorem Rest.byte {m k r : Nat} (h : Rest m k r) (hr : 128 ≤ r) : (enc m)[k]? = some (UInt8.ofNat (r % 128 + 128)) := by
  have := h.at_ 0 _ (by rw [enc_big hr]; rfl)
  simpa using this
theorem Rest.last {m k r : Nat} (h : Rest m k r) (hr : r < 128) : (enc m)[k]? = some (UInt8.ofNat r) ∧ k + 1 = (enc m).length := by
  have := h.at_ 0 _ (by rw [enc_small hr]; rfl)
  refine ⟨by simpa using this, ?_⟩
  have := h.len
  rw [enc_small hr] at this
  simpa using this

set_option maxRecDepth 100000 in
set_option maxHeartbeats 1000000 in
/-- The closure itself: the rounds are told the number's bytes; J k: what the rounds keep when k of them are over. -/
theorem septets1_any (F : Fence) (n : Nat) (hf : F.fn 39) (hro : F.round = none) (hn : 1 ≤ n) (l B m : Nat) (hm : m ≤ 1099511627776) (J : Nat → World → Prop)
    (hJ : ∀ k W u, J k W → J k (W.setCell ⟨B, 0, none⟩ u))
    (hY : ∀ k x W1 v, (enc m)[k]? = some x → J k W1 → Boxed W1 B 3 v → YieldAt F (n - 1) Try.prog l #[.int .u8 (x.toNat : Int)] W1 fun e W' => e = .returned (.bool true) ∧ J (k + 1) W' ∧ Boxed W' B 3 v)
    (W : World) (hB : Boxed W B 3 (.int .i64 (m : Int))) (h0 : J 0 W) :
    CallsIn F n Try.prog 39 #[.func (.yield l) #[] #[], .pointer (some ⟨B, 0, none⟩)] W fun e W' => (∃ v, e = .returned v) ∧ J (enc m).length W' := by
  refine callsIn_of_wp Try.func39 rfl hf ?_ hro
  simp only [Try.ntmps39, List.size_toArray, List.length_cons, List.length_nil, Nat.reduceAdd, Nat.reduceSub, Array.replicate_succ, Array.replicate_zero, List.push_toArray, List.append_toArray, List.nil_append, List.cons_append]
  gi_wp2
  gi_loopw [] (fun wr => ∃ k r : Nat, Rest m k r ∧ J k wr ∧ Boxed wr B 3 (.int .i64 (r : Int))) (fun wr => match wr.cell? ⟨B, 0, none⟩ with | some v => (intOf v).toNat | none => 0)
  case atStart => exact ⟨0, m, Rest.zero m, h0, hB⟩
  case round =>
    obtain ⟨k, r, hr, hj, hb⟩ := hrel
    have hc := hb.cell
    have hrm := hr.le
    by_cases h : 128 ≤ r
    · obtain ⟨fn, tmps, assign, body, hy, hR⟩ := hY k _ wr _ (hr.byte h) hj hb
      rw [← or_byte] at hy
      have hgt : (127 : Int) < (r : Int) := by omega
      have Hr := Lib.hid hr
      have Hb := Lib.hid hb
      clear hr hb hY
      gi_wp2
      refine hR.mono ?_
      rintro e W3 ⟨rfl, hJ3, hb3⟩
      have hc3 := hb3.cell
      have hf3 := hb3.frozen
      gi_wp2
      go_roundw
      case rel => exact ⟨k + 1, r / 128, Hr.out.next h, hJ _ _ _ hJ3, by have := hb3.set (.int .i64 ((r : Int) / 128)); exact this⟩
      case measure =>
        have e1 := (hb3.set (.int .i64 ((r : Int) / 128))).cell
        rw [e1, hc]
        simp [intOf]
        omega
    · obtain ⟨h1, h2⟩ := hr.last (by omega)
      obtain ⟨fn, tmps, assign, body, hy, hR⟩ := hY k _ wr _ h1 hj hb
      rw [← last_byte r (by omega)] at hy
      have H2 := Lib.hid h2
      clear h1 h2 hr hY
      gi_wp2
      refine hR.mono ?_
      rintro e W3 ⟨rfl, hJ3, hb3⟩
      gi_wp2
      go_end0
      rw [← H2.out]
      exact ⟨⟨_, rfl⟩, hJ3⟩
end Go.Proofs.Ytbbjeokecgnfpaa
