/-
  The walk of wire's Reader.Number.
-/
import Derived.Test.YtcimkoehcdfjdaaGreatDoorBaseG
import Derived.Deep.DeepCutAuto
import Derived.Deep.CutRange
import Derived.IntWalk
namespace Go.Proofs.YtcimkoehcdfjdaaGreatDoor
open Go.RowKit WireM

theorem i64_or_nat (a b : Nat) (ha : a < 9223372036854775808) (hb : b < 9223372036854775808) : bits .or .i64 (a : Int) (b : Int) = ((a ||| b : Nat) : Int) := by
 have hx : a ||| b < 2 ^ 63 := Nat.or_lt_two_pow (by omega) (by omega)
 show IntKind.i64.wrap ((BitVec.ofInt 64 (a : Int) ||| BitVec.ofInt 64 (b : Int)).toNat : Int) = _
 rw [BitVec.toNat_or, BitVec.ofInt_natCast, BitVec.ofInt_natCast, BitVec.toNat_ofNat, BitVec.toNat_ofNat, Nat.mod_eq_of_lt (by omega), Nat.mod_eq_of_lt (by omega)]
 exact IntWalk.i64_in _ (by omega)
theorem join_lt (s x : Nat) (hs : s ≤ 35) : x % 128 * 2 ^ s ≤ 127 * 2 ^ 35 := Nat.mul_le_mul (by omega) (Nat.pow_le_pow_right (by omega) hs)
theorem join_val (acc s x : Nat) (hs : s ≤ 35) (ha : acc < 2 ^ s) (hx : x < 256) : bits BinOp.or IntKind.i64 (acc : Int) (wrap64 (wrap64 (bits BinOp.and IntKind.u8 (x : Int) 127) * 2 ^ s)) = ((acc + x % 128 * 2 ^ s : Nat) : Int) := by
 have e1 : bits BinOp.and IntKind.u8 (x : Int) 127 = ((x % 128 : Nat) : Int) := by
  have h := u8_and_nat x 127 hx (by omega)
  rw [show x &&& 127 = x % 128 from Nat.and_two_pow_sub_one_eq_mod x 7] at h
  exact h
 have h2 := join_lt s x hs
 have h3 : 2 ^ s ≤ 2 ^ 35 := Nat.pow_le_pow_right (by omega) hs
 have e2 : ((x % 128 : Nat) : Int) * 2 ^ s = ((x % 128 * 2 ^ s : Nat) : Int) := by
  rw [Int.natCast_mul, Int.natCast_pow]
  rfl
 rw [e1, IntWalk.wrap64_in ((x % 128 : Nat) : Int) (by omega), e2, IntWalk.wrap64_in _ (by omega), i64_or_nat _ _ (by omega) (by omega)]
 congr 1
 have h4 := Nat.two_pow_add_eq_or_of_lt ha (x % 128)
 rw [Nat.or_comm, Nat.mul_comm, ← h4, Nat.add_comm]

def mustW (w0 : World) (g : Nat) (A : Option Addr) (n c : Nat) (l : List UInt8) (bad nb : Bool) : List Value → World → Prop
 | [], w => Rd w g A n c l bad ∧ Keep (Own1 g) w0 w
 | [_], w => Rd w g A n c l nb ∧ Keep (Own1 g) w0 w
 | _, _ => False
theorem mustW.grow {w0 : World} {g : Nat} {A : Option Addr} {n c : Nat} {l : List UInt8} {bad nb : Bool} : ∀ (vals : List Value) (w w2 : World), Grow w w2 → mustW w0 g A n c l bad nb vals w → mustW w0 g A n c l bad nb vals w2
 | [], _, _, hg, h => ⟨h.1.grow hg, h.2.trans' (Keep.grow hg)⟩
 | [_], _, _, hg, h => ⟨h.1.grow hg, h.2.trans' (Keep.grow hg)⟩
 | _ :: _ :: _, _, _, _, h => h

def rdS (st : St) : Option (Nat × List UInt8) := st.bind (rd 0)
theorem num_none {most : Int} {st : St} (h : rdS st = none) : num most st = (0, none) := by
 cases st with
 | none => rfl
 | some l =>
  have h2 : rd 0 l = none := h
  simp [num, h2]
theorem num_some {most : Int} {st : St} {n : Nat} {r : List UInt8} (h : rdS st = some (n, r)) : num most st = if (n : Int) ≤ most ∧ n ≤ maxNum then (n, some r) else (0, none) := by
 cases st with
 | none => cases h
 | some l =>
  have h2 : rd 0 l = some (n, r) := h
  simp [num, h2]
def Asks (s nb : Nat) (x : UInt8) (is : Bool) : Prop := (42 ≤ s ∧ is = false) ∨ (s = 0 ∧ is = true) ∨ (0 < s ∧ s < 42 ∧ nb = 0 ∧ is = false) ∨ (0 < s ∧ s < 42 ∧ nb = 1 ∧ is = decide (0 < x.toNat))

structure NumR (w : World) (g : Nat) (st0 : St) (len j acc : Nat) (W : World) : Prop where
 rd : ∃ A n c l bad, Rd W g A n c l bad ∧ (bad = true → j = 0) ∧ l.length ≤ len ∧ rdS st0 = (stOf l bad).bind fun l => (WireM.rd (7 * j) l).map fun p => (acc + p.1, p.2)
 keep : Keep (Own1 g) w W
 j6 : j ≤ 6
 acc : acc < 2 ^ (7 * j)

def Took (w : World) (g : Nat) (l : List UInt8) (bad : Bool) (nb : Nat) (x : UInt8) (Ab : Option Addr) (l1 : List UInt8) (bad1 : Bool) (w' : World) : Prop :=
 (∃ A1 n1 c1, Rd w' g A1 n1 c1 l1 bad1) ∧ Keep (Own1 g) w w' ∧
 ((bad1 = true ∧ nb = 0 ∧ (stOf l bad = none ∨ stOf l bad = some []) ∧ l1 = l) ∨ (bad1 = false ∧ nb = 1 ∧ bad = false ∧ l = x :: l1 ∧ BytesAt w' w'.heap.size Ab 1 [x] ∧ ∀ ad, Ab = some ad → ad.block ≠ g))
theorem take1 (w : World) (g : Nat) (A : Option Addr) (n c : Nat) (l : List UInt8) (bad : Bool) (h : Rd w g A n c l bad) :
  Calls Tryz.prog 95 #[.pointer (some ⟨g, 0, none⟩), .int .i64 1] w fun e w' => ∃ nb x Ab cb l1 bad1, e = .returned (.slice Ab nb cb) ∧ Took w g l bad nb x Ab l1 bad1 w' := by
 have hlen := h.len
 cases l with
 | nil =>
  have hn : n < 1 := by rw [← hlen]; simp
  refine Calls.mono (show Calls _ _ #[_, .int .i64 ((1 : Nat) : Int)] _ _ from take_bad w g A n c [] bad 1 h (Or.inr hn)) ?_
  rintro e w' ⟨rfl, h1, h2⟩
  exact ⟨0, 0, none, 0, [], true, rfl, ⟨A, n, c, h1⟩, h2, Or.inl ⟨rfl, rfl, by cases bad; exact Or.inr rfl; exact Or.inl rfl, rfl⟩⟩
 | cons x l1 =>
  cases bad with
  | true =>
   refine Calls.mono (show Calls _ _ #[_, .int .i64 ((1 : Nat) : Int)] _ _ from take_bad w g A n c (x :: l1) true 1 h (Or.inl rfl)) ?_
   rintro e w' ⟨rfl, h1, h2⟩
   exact ⟨0, 0, none, 0, x :: l1, true, rfl, ⟨A, n, c, h1⟩, h2, Or.inl ⟨rfl, rfl, Or.inl rfl, rfl⟩⟩
  | false =>
   have hn : 1 ≤ n := by rw [← hlen]; simp
   refine Calls.mono (show Calls _ _ #[_, .int .i64 ((1 : Nat) : Int)] _ _ from take_any w g A n c (x :: l1) 1 h hn) ?_
   rintro e w' ⟨rfl, h1, h2, h3⟩
   exact ⟨1, x, A, c, l1, false, rfl, ⟨_, _, _, h1⟩, h2, Or.inr ⟨rfl, rfl, rfl, rfl, h3, fun ad e => Nat.ne_of_lt (h.apart ad e)⟩⟩

set_option maxRecDepth 100000 in
set_option maxHeartbeats 4000000 in
theorem RNumber_any (w : World) (g : Nat) (A0 : Option Addr) (n0 c0 : Nat) (l0 : List UInt8) (bad0 : Bool) (most : Int) (h0 : Rd w g A0 n0 c0 l0 bad0) :
  Calls Tryz.prog 48 #[.pointer (some ⟨g, 0, none⟩), .int .i64 most] w fun e w' => e = .returned (.int .i64 ((num most (stOf l0 bad0)).1 : Nat)) ∧ RdAt w g (num most (stOf l0 bad0)).2 l0.length w' := by
 obtain ⟨r, hr⟩ : ∃ r, r = num most (stOf l0 bad0) := ⟨_, rfl⟩
 rw [← hr]
 have Hr := Lib.hid hr
 clear hr
 have hS0 : NumR w g (stOf l0 bad0) l0.length 0 0 w := ⟨⟨A0, n0, c0, l0, bad0, h0, fun _ => rfl, Nat.le_refl _, by cases bad0 <;> simp [rdS, stOf]⟩, Keep.refl _ _, by omega, by simp⟩
 have fail : ∀ W A n c l, Rd W g A n c l true → l.length ≤ l0.length → Keep (Own1 g) w W → rdS (stOf l0 bad0) = none → (.returned (.int .i64 0) : Ending) = .returned (.int .i64 (r.1 : Nat)) ∧ RdAt w g r.2 l0.length W := fun W A n c l h hl hk h1 => by
  rw [Hr.out, num_none h1]
  exact ⟨rfl, A, n, c, l, true, h, rfl, hl, hk⟩
 have Fail := Lib.hid fail
 clear fail
 obtain ⟨st0, hst0⟩ : ∃ st0, st0 = stOf l0 bad0 := ⟨_, rfl⟩
 rw [← hst0] at hS0 Fail Hr
 clear hst0
 go_enter Tryz.func48, Tryz.ntmps48
 go_wp2
 go_loopw [4, 5] (fun v4 v5 wr => ∃ j acc : Nat, v4 = .int .i64 (acc : Int) ∧ v5 = .int .i64 ((7 * j : Nat) : Int) ∧ NumR w g st0 l0.length j acc wr) (fun _ v5 _ => 49 - (intOf v5).toNat)
 case atStart => exact ⟨0, 0, rfl, rfl, hS0⟩
 case round =>
  clear hS0 h0
  obtain ⟨j, acc, rfl, rfl, hI⟩ := hrel
  obtain ⟨⟨A, n, c, l, bad, hd, hb0, hll, he⟩, hkw, hj6, hacc⟩ := hI
  have He := Lib.hid he
  clear he
  obtain ⟨s, hs⟩ : ∃ s, s = 7 * j := ⟨_, rfl⟩
  rw [← hs]
  have Hs := Lib.hid hs
  clear hs
  go_wp2_with fail
  refine (take1 wr g A n c l bad hd).mono ?_
  rintro e w1 ⟨nb, x, Ab, cb, l1, bad1, rfl, ⟨A1, n1, c1, hd1⟩, hk1, hT⟩
  obtain ⟨is, hAs⟩ : ∃ is, Asks s nb x is := by
   by_cases h1 : 42 ≤ s
   ·exact ⟨false, Or.inl ⟨h1, rfl⟩⟩
   ·by_cases h2 : s = 0
    ·exact ⟨true, Or.inr (Or.inl ⟨h2, rfl⟩)⟩
    ·rcases hT with ⟨-, h3, -⟩ | ⟨-, h3, -⟩
     ·exact ⟨false, Or.inr (Or.inr (Or.inl ⟨by omega, by omega, h3, rfl⟩))⟩
     ·exact ⟨_, Or.inr (Or.inr (Or.inr ⟨by omega, by omega, h3, rfl⟩))⟩
  have hby : nb = 1 → BytesAt w1 w1.heap.size Ab 1 [x] ∧ ∀ ad, Ab = some ad → ad.block ≠ g := fun h => by
   rcases hT with ⟨-, h3, -⟩ | ⟨-, -, -, -, h3⟩
   ·omega
   ·exact h3
  have Hby := Lib.hid hby
  have HAs := Lib.hid hAs
  have HT := Lib.hid hT
  clear hby hAs hT
  obtain ⟨b2, hb2⟩ : ∃ b2, b2 = (bad1 || !is) := ⟨_, rfl⟩
  have Hb2 := Lib.hid hb2
  clear hb2
  go_upto_region 6 with (fail)
  go_cut [15] from 15 to 35 (fun v15 wx => v15 = .pointer (some ⟨g, 0, none⟩) ∧ Rd wx g A1 n1 c1 l1 b2 ∧ Keep (Own1 g) w1 wx)
  case first Jx Kx hJ hM =>
   refine wp_region_stages (by kernel_rfl) ?_
   rcases HAs.out with ⟨h1, rfl⟩ | ⟨rfl, rfl⟩ | ⟨h1, h2, rfl, rfl⟩ | ⟨h1, h2, rfl, h3⟩
   ·have d4 : decide ((s : Int) < 42) = false := decide_eq_false (by omega)
    clear h1
    refine anyOrder_start [20] (Keep (Own1 g)) (mustW w1 g A1 n1 c1 l1 bad1 (bad1 || !false)) (FactsOn [.is (.pointer (some ⟨g, 0, none⟩)), .is (.pointer (some ⟨g, 0, none⟩)), .is (.pointer (some ⟨g, 0, none⟩)), .is (.int .i64 (s : Int)), .is (.bool false), .is (.bool false), .is (undef), .is (undef), .is (undef), .is (undef), .is (undef), .is (undef), .is (undef), .is (undef), .is (undef), .is (undef), .is (undef), .is (undef), .is (undef), .is (.bool false), .any]) (fun i => 99) keep_trans keep_grow (mustW.grow) (factsOn_mono _) (by kernel_rfl) (by kernel_rfl) ⟨hd1, Keep.refl _ _⟩ ?_ ?_
    ·refine ⟨?_, ?_, ?_, ?_, ?_, ?_, ?_, ?_, ?_, ?_, ?_, ?_, ?_, ?_, ?_, ?_, ?_, ?_, ?_, ?_, ?_, trivial⟩
     ·refine sF rfl rfl ?_
      intro us vals w3 a' ha hle hW hd hv K hK
      have q0 : a'.tmps[0]? = some (.pointer (some ⟨g, 0, none⟩)) := by rw [ha.out]; kernel_rfl
      exact sV hK rfl
     ·refine sF rfl rfl ?_
      intro us vals w3 a' ha hle hW hd hv K hK
      obtain ⟨d0, _⟩ := hd
      have q15 : a'.tmps[15]? = some (us 0) := by rw [ha.out]; kernel_rfl
      rw [show us 0 = .pointer (some ⟨g, 0, none⟩) from d0] at q15
      exact sV (v := .pointer (some ⟨g, 0, none⟩)) hK rfl
     ·refine sF rfl rfl ?_
      intro us vals w3 a' ha hle hW hd hv K hK
      obtain ⟨d1, _⟩ := hd
      have q16 : a'.tmps[16]? = some (us 1) := by rw [ha.out]; kernel_rfl
      rw [show us 1 = .pointer (some ⟨g, 0, none⟩) from d1] at q16
      exact sV (v := .pointer (some ⟨g, 0, none⟩)) hK rfl
     ·refine sF rfl rfl ?_
      intro us vals w3 a' ha hle hW hd hv K hK
      have q5 : a'.tmps[5]? = some (.int .i64 (s : Int)) := by rw [ha.out]; kernel_rfl
      exact sV hK rfl
     ·refine sF rfl rfl ?_
      intro us vals w3 a' ha hle hW hd hv K hK
      obtain ⟨d3, _⟩ := hd
      have q18 : a'.tmps[18]? = some (us 3) := by rw [ha.out]; kernel_rfl
      rw [show us 3 = .int .i64 (s : Int) from d3] at q18
      exact sV (v := .bool false) hK rfl
     ·refine sF rfl rfl ?_
      intro us vals w3 a' ha hle hW hd hv K hK
      obtain ⟨d4, _⟩ := hd
      have q19 : a'.tmps[19]? = some (us 4) := by rw [ha.out]; kernel_rfl
      rw [show us 4 = .bool false from d4] at q19
      exact sV hK rfl
     ·refine stageOf_skip rfl (fun us vals w3 a' ha hd => ?_) (fun _ => rfl)
      obtain ⟨d5, _⟩ := hd
      have q : a'.tmps[20]? = some (us 5) := by rw [ha.out]; kernel_rfl
      rw [show us 5 = .bool false from d5] at q
      exact wanted_other rfl rfl q
     ·refine stageOf_skip rfl (fun us vals w3 a' ha hd => ?_) (fun _ => rfl)
      obtain ⟨_, d5, _⟩ := hd
      have q : a'.tmps[20]? = some (us 5) := by rw [ha.out]; kernel_rfl
      rw [show us 5 = .bool false from d5] at q
      exact wanted_other rfl rfl q
     ·refine stageOf_skip rfl (fun us vals w3 a' ha hd => ?_) (fun _ => rfl)
      obtain ⟨_, d5, _, _⟩ := hd
      have q : a'.tmps[20]? = some (us 5) := by rw [ha.out]; kernel_rfl
      rw [show us 5 = .bool false from d5] at q
      exact wanted_other rfl rfl q
     ·refine stageOf_skip rfl (fun us vals w3 a' ha hd => ?_) (fun _ => rfl)
      obtain ⟨d8, _⟩ := hd
      have q : a'.tmps[23]? = some (us 8) := by rw [ha.out]; kernel_rfl
      rw [show us 8 = undef from d8] at q
      exact wanted_undef rfl rfl q
     ·refine stageOf_skip rfl (fun us vals w3 a' ha hd => ?_) (fun _ => rfl)
      obtain ⟨_, d8, _⟩ := hd
      have q : a'.tmps[23]? = some (us 8) := by rw [ha.out]; kernel_rfl
      rw [show us 8 = undef from d8] at q
      exact wanted_undef rfl rfl q
     ·refine stageOf_skip rfl (fun us vals w3 a' ha hd => ?_) (fun _ => rfl)
      obtain ⟨_, d8, _⟩ := hd
      have q : a'.tmps[23]? = some (us 8) := by rw [ha.out]; kernel_rfl
      rw [show us 8 = undef from d8] at q
      exact wanted_undef rfl rfl q
     ·refine stageOf_skip rfl (fun us vals w3 a' ha hd => ?_) (fun _ => rfl)
      obtain ⟨_, d8, _, _⟩ := hd
      have q : a'.tmps[23]? = some (us 8) := by rw [ha.out]; kernel_rfl
      rw [show us 8 = undef from d8] at q
      exact wanted_undef rfl rfl q
     ·refine stageOf_skip rfl (fun us vals w3 a' ha hd => ?_) (fun _ => rfl)
      obtain ⟨d12, _⟩ := hd
      have q : a'.tmps[27]? = some (us 12) := by rw [ha.out]; kernel_rfl
      rw [show us 12 = undef from d12] at q
      exact wanted_undef rfl rfl q
     ·refine stageOf_skip rfl (fun us vals w3 a' ha hd => ?_) (fun _ => rfl)
      obtain ⟨_, d12, _⟩ := hd
      have q : a'.tmps[27]? = some (us 12) := by rw [ha.out]; kernel_rfl
      rw [show us 12 = undef from d12] at q
      exact wanted_undef rfl rfl q
     ·refine stageOf_skip rfl (fun us vals w3 a' ha hd => ?_) (fun _ => rfl)
      obtain ⟨_, d12, _⟩ := hd
      have q : a'.tmps[27]? = some (us 12) := by rw [ha.out]; kernel_rfl
      rw [show us 12 = undef from d12] at q
      exact wanted_undef rfl rfl q
     ·refine stageOf_skip rfl (fun us vals w3 a' ha hd => ?_) (fun _ => rfl)
      obtain ⟨_, d12, _⟩ := hd
      have q : a'.tmps[27]? = some (us 12) := by rw [ha.out]; kernel_rfl
      rw [show us 12 = undef from d12] at q
      exact wanted_undef rfl rfl q
     ·refine stageOf_skip rfl (fun us vals w3 a' ha hd => ?_) (fun _ => rfl)
      obtain ⟨_, _, d8, _⟩ := hd
      have q : a'.tmps[23]? = some (us 8) := by rw [ha.out]; kernel_rfl
      rw [show us 8 = undef from d8] at q
      exact wanted_undef rfl rfl q
     ·refine stageOf_skip rfl (fun us vals w3 a' ha hd => ?_) (fun _ => rfl)
      obtain ⟨_, _, d5, _⟩ := hd
      have q : a'.tmps[20]? = some (us 5) := by rw [ha.out]; kernel_rfl
      rw [show us 5 = .bool false from d5] at q
      exact wanted_other rfl rfl q
     ·refine sF rfl rfl ?_
      intro us vals w3 a' ha hle hW hd hv K hK
      obtain ⟨d5, d18, _⟩ := hd
      have q20 : a'.tmps[20]? = some (us 5) := by rw [ha.out]; kernel_rfl
      rw [show us 5 = .bool false from d5] at q20
      have q33 : a'.tmps[33]? = some (us 18) := by rw [ha.out]; kernel_rfl
      rw [show us 18 = undef from d18] at q33
      exact sV (v := .bool false) hK rfl
     ·refine stageOf_mem (t := 0) rfl ?_
      intro us vals w3 a' ha hle hW hd hv
      obtain ⟨d2, d19, _, _⟩ := hd
      obtain rfl := List.eq_nil_of_length_eq_zero (Nat.le_zero.1 (show vals.length ≤ 0 from Nat.le_of_eq hv))
      refine ⟨wanted_none rfl, fun K hK => ?_⟩
      have q17 : a'.tmps[17]? = some (us 2) := by rw [ha.out]; kernel_rfl
      rw [show us 2 = .pointer (some ⟨g, 0, none⟩) from d2] at q17
      have q34 : a'.tmps[34]? = some (us 19) := by rw [ha.out]; kernel_rfl
      rw [show us 19 = .bool false from d19] at q34
      refine step_call (f := 96) (args := #[.pointer (some ⟨g, 0, none⟩), .bool false]) (by go_simp) ?_
      refine (must_any w3 g A1 n1 c1 l1 bad1 false hW.1).mono ?_
      rintro e w4 ⟨rfl, h5, h6⟩
      exact ⟨_, rfl, hK _ _ h6 ⟨h5, hW.2.trans' h6⟩⟩
    ·intro us vals w3 hle hvl hV _ hfa
     obtain ⟨x1, rfl⟩ := List.length_eq_one_iff.1 hvl
     have h15 : us 0 = _ := hfa 0 (by decide) rfl
     exact hM _ _ (Met.intro (hJ _ _ ⟨us 0, us 1, us 2, us 3, us 4, us 5, us 6, us 7, us 8, us 9, us 10, us 11, us 12, us 13, us 14, us 15, us 16, us 17, us 18, us 19, us 20, ⟨h15, by rw [Hb2.out]; exact hV.1, hV.2⟩, by kernel_rfl⟩))
   ·
    refine anyOrder_start [20] (Keep (Own1 g)) (mustW w1 g A1 n1 c1 l1 bad1 (bad1 || !true)) (FactsOn [.is (.pointer (some ⟨g, 0, none⟩)), .is (.pointer (some ⟨g, 0, none⟩)), .is (.pointer (some ⟨g, 0, none⟩)), .is (.int .i64 0), .is (.bool true), .is (.bool true), .is (.int .i64 0), .is (.bool true), .is (.bool true), .is (undef), .is (undef), .is (undef), .is (undef), .is (undef), .is (undef), .is (undef), .is (undef), .is (undef), .is (.bool true), .is (.bool true), .any]) (fun i => 99) keep_trans keep_grow (mustW.grow) (factsOn_mono _) (by kernel_rfl) (by kernel_rfl) ⟨hd1, Keep.refl _ _⟩ ?_ ?_
    ·refine ⟨?_, ?_, ?_, ?_, ?_, ?_, ?_, ?_, ?_, ?_, ?_, ?_, ?_, ?_, ?_, ?_, ?_, ?_, ?_, ?_, ?_, trivial⟩
     ·refine sF rfl rfl ?_
      intro us vals w3 a' ha hle hW hd hv K hK
      have q0 : a'.tmps[0]? = some (.pointer (some ⟨g, 0, none⟩)) := by rw [ha.out]; kernel_rfl
      exact sV hK rfl
     ·refine sF rfl rfl ?_
      intro us vals w3 a' ha hle hW hd hv K hK
      obtain ⟨d0, _⟩ := hd
      have q15 : a'.tmps[15]? = some (us 0) := by rw [ha.out]; kernel_rfl
      rw [show us 0 = .pointer (some ⟨g, 0, none⟩) from d0] at q15
      exact sV (v := .pointer (some ⟨g, 0, none⟩)) hK rfl
     ·refine sF rfl rfl ?_
      intro us vals w3 a' ha hle hW hd hv K hK
      obtain ⟨d1, _⟩ := hd
      have q16 : a'.tmps[16]? = some (us 1) := by rw [ha.out]; kernel_rfl
      rw [show us 1 = .pointer (some ⟨g, 0, none⟩) from d1] at q16
      exact sV (v := .pointer (some ⟨g, 0, none⟩)) hK rfl
     ·refine sF rfl rfl ?_
      intro us vals w3 a' ha hle hW hd hv K hK
      have q5 : a'.tmps[5]? = some (.int .i64 0) := by rw [ha.out]; kernel_rfl
      exact sV hK rfl
     ·refine sF rfl rfl ?_
      intro us vals w3 a' ha hle hW hd hv K hK
      obtain ⟨d3, _⟩ := hd
      have q18 : a'.tmps[18]? = some (us 3) := by rw [ha.out]; kernel_rfl
      rw [show us 3 = .int .i64 0 from d3] at q18
      exact sV (v := .bool true) hK rfl
     ·refine sF rfl rfl ?_
      intro us vals w3 a' ha hle hW hd hv K hK
      obtain ⟨d4, _⟩ := hd
      have q19 : a'.tmps[19]? = some (us 4) := by rw [ha.out]; kernel_rfl
      rw [show us 4 = .bool true from d4] at q19
      exact sV hK rfl
     ·refine stageOf_free rfl (fun us vals w3 a' ha hd => ?_) ?_
      ·obtain ⟨d5, _⟩ := hd
       have q : a'.tmps[20]? = some (us 5) := by rw [ha.out]; kernel_rfl
       rw [show us 5 = .bool true from d5] at q
       exact wanted_some rfl rfl q
      intro us vals w3 a' ha hle hW hd hv K hK
      have q5 : a'.tmps[5]? = some (.int .i64 0) := by rw [ha.out]; kernel_rfl
      exact sV hK rfl
     ·refine stageOf_free rfl (fun us vals w3 a' ha hd => ?_) ?_
      ·obtain ⟨_, d5, _⟩ := hd
       have q : a'.tmps[20]? = some (us 5) := by rw [ha.out]; kernel_rfl
       rw [show us 5 = .bool true from d5] at q
       exact wanted_some rfl rfl q
      intro us vals w3 a' ha hle hW hd hv K hK
      obtain ⟨d6, _, _⟩ := hd
      have q21 : a'.tmps[21]? = some (us 6) := by rw [ha.out]; kernel_rfl
      rw [show us 6 = .int .i64 0 from d6] at q21
      exact sV (v := .bool true) hK rfl
     ·refine stageOf_free rfl (fun us vals w3 a' ha hd => ?_) ?_
      ·obtain ⟨_, d5, _, _⟩ := hd
       have q : a'.tmps[20]? = some (us 5) := by rw [ha.out]; kernel_rfl
       rw [show us 5 = .bool true from d5] at q
       exact wanted_some rfl rfl q
      intro us vals w3 a' ha hle hW hd hv K hK
      obtain ⟨d7, _, _, _⟩ := hd
      have q22 : a'.tmps[22]? = some (us 7) := by rw [ha.out]; kernel_rfl
      rw [show us 7 = .bool true from d7] at q22
      exact sV hK rfl
     ·refine stageOf_skip rfl (fun us vals w3 a' ha hd => ?_) (fun _ => rfl)
      obtain ⟨d8, _⟩ := hd
      have q : a'.tmps[23]? = some (us 8) := by rw [ha.out]; kernel_rfl
      rw [show us 8 = .bool true from d8] at q
      exact wanted_other rfl rfl q
     ·refine stageOf_skip rfl (fun us vals w3 a' ha hd => ?_) (fun _ => rfl)
      obtain ⟨_, d8, _⟩ := hd
      have q : a'.tmps[23]? = some (us 8) := by rw [ha.out]; kernel_rfl
      rw [show us 8 = .bool true from d8] at q
      exact wanted_other rfl rfl q
     ·refine stageOf_skip rfl (fun us vals w3 a' ha hd => ?_) (fun _ => rfl)
      obtain ⟨_, d8, _⟩ := hd
      have q : a'.tmps[23]? = some (us 8) := by rw [ha.out]; kernel_rfl
      rw [show us 8 = .bool true from d8] at q
      exact wanted_other rfl rfl q
     ·refine stageOf_skip rfl (fun us vals w3 a' ha hd => ?_) (fun _ => rfl)
      obtain ⟨_, d8, _, _⟩ := hd
      have q : a'.tmps[23]? = some (us 8) := by rw [ha.out]; kernel_rfl
      rw [show us 8 = .bool true from d8] at q
      exact wanted_other rfl rfl q
     ·refine stageOf_skip rfl (fun us vals w3 a' ha hd => ?_) (fun _ => rfl)
      obtain ⟨d12, _⟩ := hd
      have q : a'.tmps[27]? = some (us 12) := by rw [ha.out]; kernel_rfl
      rw [show us 12 = undef from d12] at q
      exact wanted_undef rfl rfl q
     ·refine stageOf_skip rfl (fun us vals w3 a' ha hd => ?_) (fun _ => rfl)
      obtain ⟨_, d12, _⟩ := hd
      have q : a'.tmps[27]? = some (us 12) := by rw [ha.out]; kernel_rfl
      rw [show us 12 = undef from d12] at q
      exact wanted_undef rfl rfl q
     ·refine stageOf_skip rfl (fun us vals w3 a' ha hd => ?_) (fun _ => rfl)
      obtain ⟨_, d12, _⟩ := hd
      have q : a'.tmps[27]? = some (us 12) := by rw [ha.out]; kernel_rfl
      rw [show us 12 = undef from d12] at q
      exact wanted_undef rfl rfl q
     ·refine stageOf_skip rfl (fun us vals w3 a' ha hd => ?_) (fun _ => rfl)
      obtain ⟨_, d12, _⟩ := hd
      have q : a'.tmps[27]? = some (us 12) := by rw [ha.out]; kernel_rfl
      rw [show us 12 = undef from d12] at q
      exact wanted_undef rfl rfl q
     ·refine stageOf_skip rfl (fun us vals w3 a' ha hd => ?_) (fun _ => rfl)
      obtain ⟨_, _, d8, _⟩ := hd
      have q : a'.tmps[23]? = some (us 8) := by rw [ha.out]; kernel_rfl
      rw [show us 8 = .bool true from d8] at q
      exact wanted_other rfl rfl q
     ·refine stageOf_free rfl (fun us vals w3 a' ha hd => ?_) ?_
      ·obtain ⟨_, _, d5, _⟩ := hd
       have q : a'.tmps[20]? = some (us 5) := by rw [ha.out]; kernel_rfl
       rw [show us 5 = .bool true from d5] at q
       exact wanted_some rfl rfl q
      intro us vals w3 a' ha hle hW hd hv K hK
      obtain ⟨d8, d17, _, _⟩ := hd
      have q23 : a'.tmps[23]? = some (us 8) := by rw [ha.out]; kernel_rfl
      rw [show us 8 = .bool true from d8] at q23
      have q32 : a'.tmps[32]? = some (us 17) := by rw [ha.out]; kernel_rfl
      rw [show us 17 = undef from d17] at q32
      exact sV (v := .bool true) hK rfl
     ·refine sF rfl rfl ?_
      intro us vals w3 a' ha hle hW hd hv K hK
      obtain ⟨d5, d18, _⟩ := hd
      have q20 : a'.tmps[20]? = some (us 5) := by rw [ha.out]; kernel_rfl
      rw [show us 5 = .bool true from d5] at q20
      have q33 : a'.tmps[33]? = some (us 18) := by rw [ha.out]; kernel_rfl
      rw [show us 18 = .bool true from d18] at q33
      exact sV (v := .bool true) hK rfl
     ·refine stageOf_mem (t := 0) rfl ?_
      intro us vals w3 a' ha hle hW hd hv
      obtain ⟨d2, d19, _, _⟩ := hd
      obtain rfl := List.eq_nil_of_length_eq_zero (Nat.le_zero.1 (show vals.length ≤ 0 from Nat.le_of_eq hv))
      refine ⟨wanted_none rfl, fun K hK => ?_⟩
      have q17 : a'.tmps[17]? = some (us 2) := by rw [ha.out]; kernel_rfl
      rw [show us 2 = .pointer (some ⟨g, 0, none⟩) from d2] at q17
      have q34 : a'.tmps[34]? = some (us 19) := by rw [ha.out]; kernel_rfl
      rw [show us 19 = .bool true from d19] at q34
      refine step_call (f := 96) (args := #[.pointer (some ⟨g, 0, none⟩), .bool true]) (by go_simp) ?_
      refine (must_any w3 g A1 n1 c1 l1 bad1 true hW.1).mono ?_
      rintro e w4 ⟨rfl, h5, h6⟩
      exact ⟨_, rfl, hK _ _ h6 ⟨h5, hW.2.trans' h6⟩⟩
    ·intro us vals w3 hle hvl hV _ hfa
     obtain ⟨x1, rfl⟩ := List.length_eq_one_iff.1 hvl
     have h15 : us 0 = _ := hfa 0 (by decide) rfl
     exact hM _ _ (Met.intro (hJ _ _ ⟨us 0, us 1, us 2, us 3, us 4, us 5, us 6, us 7, us 8, us 9, us 10, us 11, us 12, us 13, us 14, us 15, us 16, us 17, us 18, us 19, us 20, ⟨h15, by rw [Hb2.out]; exact hV.1, hV.2⟩, by kernel_rfl⟩))
   ·have d4 : decide ((s : Int) < 42) = true := decide_eq_true (by omega)
    have d7 : ((s : Int) == 0) = false := by rw [beq_eq_false_iff_ne]; omega
    clear h1 h2
    refine anyOrder_start [20] (Keep (Own1 g)) (mustW w1 g A1 n1 c1 l1 bad1 (bad1 || !false)) (FactsOn [.is (.pointer (some ⟨g, 0, none⟩)), .is (.pointer (some ⟨g, 0, none⟩)), .is (.pointer (some ⟨g, 0, none⟩)), .is (.int .i64 (s : Int)), .is (.bool true), .is (.bool true), .is (.int .i64 (s : Int)), .is (.bool false), .is (.bool false), .is (.slice Ab 0 cb), .is (.int .i64 0), .is (.bool false), .is (.bool false), .is (undef), .is (undef), .is (undef), .is (undef), .is (.bool false), .is (.bool false), .is (.bool false), .any]) (fun i => 99) keep_trans keep_grow (mustW.grow) (factsOn_mono _) (by kernel_rfl) (by kernel_rfl) ⟨hd1, Keep.refl _ _⟩ ?_ ?_
    ·refine ⟨?_, ?_, ?_, ?_, ?_, ?_, ?_, ?_, ?_, ?_, ?_, ?_, ?_, ?_, ?_, ?_, ?_, ?_, ?_, ?_, ?_, trivial⟩
     ·refine sF rfl rfl ?_
      intro us vals w3 a' ha hle hW hd hv K hK
      have q0 : a'.tmps[0]? = some (.pointer (some ⟨g, 0, none⟩)) := by rw [ha.out]; kernel_rfl
      exact sV hK rfl
     ·refine sF rfl rfl ?_
      intro us vals w3 a' ha hle hW hd hv K hK
      obtain ⟨d0, _⟩ := hd
      have q15 : a'.tmps[15]? = some (us 0) := by rw [ha.out]; kernel_rfl
      rw [show us 0 = .pointer (some ⟨g, 0, none⟩) from d0] at q15
      exact sV (v := .pointer (some ⟨g, 0, none⟩)) hK rfl
     ·refine sF rfl rfl ?_
      intro us vals w3 a' ha hle hW hd hv K hK
      obtain ⟨d1, _⟩ := hd
      have q16 : a'.tmps[16]? = some (us 1) := by rw [ha.out]; kernel_rfl
      rw [show us 1 = .pointer (some ⟨g, 0, none⟩) from d1] at q16
      exact sV (v := .pointer (some ⟨g, 0, none⟩)) hK rfl
     ·refine sF rfl rfl ?_
      intro us vals w3 a' ha hle hW hd hv K hK
      have q5 : a'.tmps[5]? = some (.int .i64 (s : Int)) := by rw [ha.out]; kernel_rfl
      exact sV hK rfl
     ·refine sF rfl rfl ?_
      intro us vals w3 a' ha hle hW hd hv K hK
      obtain ⟨d3, _⟩ := hd
      have q18 : a'.tmps[18]? = some (us 3) := by rw [ha.out]; kernel_rfl
      rw [show us 3 = .int .i64 (s : Int) from d3] at q18
      exact sV (v := .bool true) hK rfl
     ·refine sF rfl rfl ?_
      intro us vals w3 a' ha hle hW hd hv K hK
      obtain ⟨d4, _⟩ := hd
      have q19 : a'.tmps[19]? = some (us 4) := by rw [ha.out]; kernel_rfl
      rw [show us 4 = .bool true from d4] at q19
      exact sV hK rfl
     ·refine stageOf_free rfl (fun us vals w3 a' ha hd => ?_) ?_
      ·obtain ⟨d5, _⟩ := hd
       have q : a'.tmps[20]? = some (us 5) := by rw [ha.out]; kernel_rfl
       rw [show us 5 = .bool true from d5] at q
       exact wanted_some rfl rfl q
      intro us vals w3 a' ha hle hW hd hv K hK
      have q5 : a'.tmps[5]? = some (.int .i64 (s : Int)) := by rw [ha.out]; kernel_rfl
      exact sV hK rfl
     ·refine stageOf_free rfl (fun us vals w3 a' ha hd => ?_) ?_
      ·obtain ⟨_, d5, _⟩ := hd
       have q : a'.tmps[20]? = some (us 5) := by rw [ha.out]; kernel_rfl
       rw [show us 5 = .bool true from d5] at q
       exact wanted_some rfl rfl q
      intro us vals w3 a' ha hle hW hd hv K hK
      obtain ⟨d6, _, _⟩ := hd
      have q21 : a'.tmps[21]? = some (us 6) := by rw [ha.out]; kernel_rfl
      rw [show us 6 = .int .i64 (s : Int) from d6] at q21
      exact sV (v := .bool false) hK rfl
     ·refine stageOf_free rfl (fun us vals w3 a' ha hd => ?_) ?_
      ·obtain ⟨_, d5, _, _⟩ := hd
       have q : a'.tmps[20]? = some (us 5) := by rw [ha.out]; kernel_rfl
       rw [show us 5 = .bool true from d5] at q
       exact wanted_some rfl rfl q
      intro us vals w3 a' ha hle hW hd hv K hK
      obtain ⟨d7, _, _, _⟩ := hd
      have q22 : a'.tmps[22]? = some (us 7) := by rw [ha.out]; kernel_rfl
      rw [show us 7 = .bool false from d7] at q22
      exact sV hK rfl
     ·refine stageOf_free rfl (fun us vals w3 a' ha hd => ?_) ?_
      ·obtain ⟨d8, _⟩ := hd
       have q : a'.tmps[23]? = some (us 8) := by rw [ha.out]; kernel_rfl
       rw [show us 8 = .bool false from d8] at q
       exact wanted_some rfl rfl q
      intro us vals w3 a' ha hle hW hd hv K hK
      have q6 : a'.tmps[6]? = some (.slice Ab 0 cb) := by rw [ha.out]; kernel_rfl
      exact sV hK rfl
     ·refine stageOf_free rfl (fun us vals w3 a' ha hd => ?_) ?_
      ·obtain ⟨_, d8, _⟩ := hd
       have q : a'.tmps[23]? = some (us 8) := by rw [ha.out]; kernel_rfl
       rw [show us 8 = .bool false from d8] at q
       exact wanted_some rfl rfl q
      intro us vals w3 a' ha hle hW hd hv K hK
      obtain ⟨d9, _, _⟩ := hd
      have q24 : a'.tmps[24]? = some (us 9) := by rw [ha.out]; kernel_rfl
      rw [show us 9 = .slice Ab 0 cb from d9] at q24
      exact sV (v := .int .i64 0) hK rfl
     ·refine stageOf_free rfl (fun us vals w3 a' ha hd => ?_) ?_
      ·obtain ⟨_, d8, _⟩ := hd
       have q : a'.tmps[23]? = some (us 8) := by rw [ha.out]; kernel_rfl
       rw [show us 8 = .bool false from d8] at q
       exact wanted_some rfl rfl q
      intro us vals w3 a' ha hle hW hd hv K hK
      obtain ⟨d10, _, _⟩ := hd
      have q25 : a'.tmps[25]? = some (us 10) := by rw [ha.out]; kernel_rfl
      rw [show us 10 = .int .i64 0 from d10] at q25
      exact sV (v := .bool false) hK rfl
     ·refine stageOf_free rfl (fun us vals w3 a' ha hd => ?_) ?_
      ·obtain ⟨_, d8, _, _⟩ := hd
       have q : a'.tmps[23]? = some (us 8) := by rw [ha.out]; kernel_rfl
       rw [show us 8 = .bool false from d8] at q
       exact wanted_some rfl rfl q
      intro us vals w3 a' ha hle hW hd hv K hK
      obtain ⟨d11, _, _, _⟩ := hd
      have q26 : a'.tmps[26]? = some (us 11) := by rw [ha.out]; kernel_rfl
      rw [show us 11 = .bool false from d11] at q26
      exact sV hK rfl
     ·refine stageOf_skip rfl (fun us vals w3 a' ha hd => ?_) (fun _ => rfl)
      obtain ⟨d12, _⟩ := hd
      have q : a'.tmps[27]? = some (us 12) := by rw [ha.out]; kernel_rfl
      rw [show us 12 = .bool false from d12] at q
      exact wanted_other rfl rfl q
     ·refine stageOf_skip rfl (fun us vals w3 a' ha hd => ?_) (fun _ => rfl)
      obtain ⟨_, d12, _⟩ := hd
      have q : a'.tmps[27]? = some (us 12) := by rw [ha.out]; kernel_rfl
      rw [show us 12 = .bool false from d12] at q
      exact wanted_other rfl rfl q
     ·refine stageOf_skip rfl (fun us vals w3 a' ha hd => ?_) (fun _ => rfl)
      obtain ⟨_, d12, _⟩ := hd
      have q : a'.tmps[27]? = some (us 12) := by rw [ha.out]; kernel_rfl
      rw [show us 12 = .bool false from d12] at q
      exact wanted_other rfl rfl q
     ·refine stageOf_skip rfl (fun us vals w3 a' ha hd => ?_) (fun _ => rfl)
      obtain ⟨_, d12, _⟩ := hd
      have q : a'.tmps[27]? = some (us 12) := by rw [ha.out]; kernel_rfl
      rw [show us 12 = .bool false from d12] at q
      exact wanted_other rfl rfl q
     ·refine stageOf_free rfl (fun us vals w3 a' ha hd => ?_) ?_
      ·obtain ⟨_, _, d8, _⟩ := hd
       have q : a'.tmps[23]? = some (us 8) := by rw [ha.out]; kernel_rfl
       rw [show us 8 = .bool false from d8] at q
       exact wanted_some rfl rfl q
      intro us vals w3 a' ha hle hW hd hv K hK
      obtain ⟨d12, d16, _, _⟩ := hd
      have q27 : a'.tmps[27]? = some (us 12) := by rw [ha.out]; kernel_rfl
      rw [show us 12 = .bool false from d12] at q27
      have q31 : a'.tmps[31]? = some (us 16) := by rw [ha.out]; kernel_rfl
      rw [show us 16 = undef from d16] at q31
      exact sV (v := .bool false) hK rfl
     ·refine stageOf_free rfl (fun us vals w3 a' ha hd => ?_) ?_
      ·obtain ⟨_, _, d5, _⟩ := hd
       have q : a'.tmps[20]? = some (us 5) := by rw [ha.out]; kernel_rfl
       rw [show us 5 = .bool true from d5] at q
       exact wanted_some rfl rfl q
      intro us vals w3 a' ha hle hW hd hv K hK
      obtain ⟨d8, d17, _, _⟩ := hd
      have q23 : a'.tmps[23]? = some (us 8) := by rw [ha.out]; kernel_rfl
      rw [show us 8 = .bool false from d8] at q23
      have q32 : a'.tmps[32]? = some (us 17) := by rw [ha.out]; kernel_rfl
      rw [show us 17 = .bool false from d17] at q32
      exact sV (v := .bool false) hK rfl
     ·refine sF rfl rfl ?_
      intro us vals w3 a' ha hle hW hd hv K hK
      obtain ⟨d5, d18, _⟩ := hd
      have q20 : a'.tmps[20]? = some (us 5) := by rw [ha.out]; kernel_rfl
      rw [show us 5 = .bool true from d5] at q20
      have q33 : a'.tmps[33]? = some (us 18) := by rw [ha.out]; kernel_rfl
      rw [show us 18 = .bool false from d18] at q33
      exact sV (v := .bool false) hK rfl
     ·refine stageOf_mem (t := 0) rfl ?_
      intro us vals w3 a' ha hle hW hd hv
      obtain ⟨d2, d19, _, _⟩ := hd
      obtain rfl := List.eq_nil_of_length_eq_zero (Nat.le_zero.1 (show vals.length ≤ 0 from Nat.le_of_eq hv))
      refine ⟨wanted_none rfl, fun K hK => ?_⟩
      have q17 : a'.tmps[17]? = some (us 2) := by rw [ha.out]; kernel_rfl
      rw [show us 2 = .pointer (some ⟨g, 0, none⟩) from d2] at q17
      have q34 : a'.tmps[34]? = some (us 19) := by rw [ha.out]; kernel_rfl
      rw [show us 19 = .bool false from d19] at q34
      refine step_call (f := 96) (args := #[.pointer (some ⟨g, 0, none⟩), .bool false]) (by go_simp) ?_
      refine (must_any w3 g A1 n1 c1 l1 bad1 false hW.1).mono ?_
      rintro e w4 ⟨rfl, h5, h6⟩
      exact ⟨_, rfl, hK _ _ h6 ⟨h5, hW.2.trans' h6⟩⟩
    ·intro us vals w3 hle hvl hV _ hfa
     obtain ⟨x1, rfl⟩ := List.length_eq_one_iff.1 hvl
     have h15 : us 0 = _ := hfa 0 (by decide) rfl
     exact hM _ _ (Met.intro (hJ _ _ ⟨us 0, us 1, us 2, us 3, us 4, us 5, us 6, us 7, us 8, us 9, us 10, us 11, us 12, us 13, us 14, us 15, us 16, us 17, us 18, us 19, us 20, ⟨h15, by rw [Hb2.out]; exact hV.1, hV.2⟩, by kernel_rfl⟩))
   ·have d4 : decide ((s : Int) < 42) = true := decide_eq_true (by omega)
    have d7 : ((s : Int) == 0) = false := by rw [beq_eq_false_iff_ne]; omega
    obtain ⟨hbt, hap⟩ := Hby.out rfl
    obtain ⟨b, off, rfl, hbl, hcl⟩ := hbt.at_ (by omega)
    have hcx := hcl 0 x rfl
    rw [Nat.add_zero] at hcx
    have hbg : ¬ Own1 g b := fun h => hap _ rfl h
    have Hc := Lib.hid h3
    clear h1 h2 h3 hcl hap hbt
    refine anyOrder_start [20] (Keep (Own1 g)) (mustW w1 g A1 n1 c1 l1 bad1 (bad1 || !is)) (FactsOn [.is (.pointer (some ⟨g, 0, none⟩)), .is (.pointer (some ⟨g, 0, none⟩)), .is (.pointer (some ⟨g, 0, none⟩)), .is (.int .i64 (s : Int)), .is (.bool true), .is (.bool true), .is (.int .i64 (s : Int)), .is (.bool false), .is (.bool false), .is (.slice (some ⟨b, off, none⟩) 1 cb), .is (.int .i64 1), .is (.bool true), .is (.bool true), .is (.slice (some ⟨b, off, none⟩) 1 cb), .is (.pointer (some ⟨b, off, none⟩)), .is (.int .u8 (x.toNat : Int)), .is (.bool is), .is (.bool is), .is (.bool is), .is (.bool is), .any]) (fun i => 99) keep_trans keep_grow (mustW.grow) (factsOn_mono _) (by kernel_rfl) (by kernel_rfl) ⟨hd1, Keep.refl _ _⟩ ?_ ?_
    ·refine ⟨?_, ?_, ?_, ?_, ?_, ?_, ?_, ?_, ?_, ?_, ?_, ?_, ?_, ?_, ?_, ?_, ?_, ?_, ?_, ?_, ?_, trivial⟩
     ·refine sF rfl rfl ?_
      intro us vals w3 a' ha hle hW hd hv K hK
      have q0 : a'.tmps[0]? = some (.pointer (some ⟨g, 0, none⟩)) := by rw [ha.out]; kernel_rfl
      exact sV hK rfl
     ·refine sF rfl rfl ?_
      intro us vals w3 a' ha hle hW hd hv K hK
      obtain ⟨d0, _⟩ := hd
      have q15 : a'.tmps[15]? = some (us 0) := by rw [ha.out]; kernel_rfl
      rw [show us 0 = .pointer (some ⟨g, 0, none⟩) from d0] at q15
      exact sV (v := .pointer (some ⟨g, 0, none⟩)) hK rfl
     ·refine sF rfl rfl ?_
      intro us vals w3 a' ha hle hW hd hv K hK
      obtain ⟨d1, _⟩ := hd
      have q16 : a'.tmps[16]? = some (us 1) := by rw [ha.out]; kernel_rfl
      rw [show us 1 = .pointer (some ⟨g, 0, none⟩) from d1] at q16
      exact sV (v := .pointer (some ⟨g, 0, none⟩)) hK rfl
     ·refine sF rfl rfl ?_
      intro us vals w3 a' ha hle hW hd hv K hK
      have q5 : a'.tmps[5]? = some (.int .i64 (s : Int)) := by rw [ha.out]; kernel_rfl
      exact sV hK rfl
     ·refine sF rfl rfl ?_
      intro us vals w3 a' ha hle hW hd hv K hK
      obtain ⟨d3, _⟩ := hd
      have q18 : a'.tmps[18]? = some (us 3) := by rw [ha.out]; kernel_rfl
      rw [show us 3 = .int .i64 (s : Int) from d3] at q18
      exact sV (v := .bool true) hK rfl
     ·refine sF rfl rfl ?_
      intro us vals w3 a' ha hle hW hd hv K hK
      obtain ⟨d4, _⟩ := hd
      have q19 : a'.tmps[19]? = some (us 4) := by rw [ha.out]; kernel_rfl
      rw [show us 4 = .bool true from d4] at q19
      exact sV hK rfl
     ·refine stageOf_free rfl (fun us vals w3 a' ha hd => ?_) ?_
      ·obtain ⟨d5, _⟩ := hd
       have q : a'.tmps[20]? = some (us 5) := by rw [ha.out]; kernel_rfl
       rw [show us 5 = .bool true from d5] at q
       exact wanted_some rfl rfl q
      intro us vals w3 a' ha hle hW hd hv K hK
      have q5 : a'.tmps[5]? = some (.int .i64 (s : Int)) := by rw [ha.out]; kernel_rfl
      exact sV hK rfl
     ·refine stageOf_free rfl (fun us vals w3 a' ha hd => ?_) ?_
      ·obtain ⟨_, d5, _⟩ := hd
       have q : a'.tmps[20]? = some (us 5) := by rw [ha.out]; kernel_rfl
       rw [show us 5 = .bool true from d5] at q
       exact wanted_some rfl rfl q
      intro us vals w3 a' ha hle hW hd hv K hK
      obtain ⟨d6, _, _⟩ := hd
      have q21 : a'.tmps[21]? = some (us 6) := by rw [ha.out]; kernel_rfl
      rw [show us 6 = .int .i64 (s : Int) from d6] at q21
      exact sV (v := .bool false) hK rfl
     ·refine stageOf_free rfl (fun us vals w3 a' ha hd => ?_) ?_
      ·obtain ⟨_, d5, _, _⟩ := hd
       have q : a'.tmps[20]? = some (us 5) := by rw [ha.out]; kernel_rfl
       rw [show us 5 = .bool true from d5] at q
       exact wanted_some rfl rfl q
      intro us vals w3 a' ha hle hW hd hv K hK
      obtain ⟨d7, _, _, _⟩ := hd
      have q22 : a'.tmps[22]? = some (us 7) := by rw [ha.out]; kernel_rfl
      rw [show us 7 = .bool false from d7] at q22
      exact sV hK rfl
     ·refine stageOf_free rfl (fun us vals w3 a' ha hd => ?_) ?_
      ·obtain ⟨d8, _⟩ := hd
       have q : a'.tmps[23]? = some (us 8) := by rw [ha.out]; kernel_rfl
       rw [show us 8 = .bool false from d8] at q
       exact wanted_some rfl rfl q
      intro us vals w3 a' ha hle hW hd hv K hK
      have q6 : a'.tmps[6]? = some (.slice (some ⟨b, off, none⟩) 1 cb) := by rw [ha.out]; kernel_rfl
      exact sV hK rfl
     ·refine stageOf_free rfl (fun us vals w3 a' ha hd => ?_) ?_
      ·obtain ⟨_, d8, _⟩ := hd
       have q : a'.tmps[23]? = some (us 8) := by rw [ha.out]; kernel_rfl
       rw [show us 8 = .bool false from d8] at q
       exact wanted_some rfl rfl q
      intro us vals w3 a' ha hle hW hd hv K hK
      obtain ⟨d9, _, _⟩ := hd
      have q24 : a'.tmps[24]? = some (us 9) := by rw [ha.out]; kernel_rfl
      rw [show us 9 = .slice (some ⟨b, off, none⟩) 1 cb from d9] at q24
      exact sV (v := .int .i64 1) hK rfl
     ·refine stageOf_free rfl (fun us vals w3 a' ha hd => ?_) ?_
      ·obtain ⟨_, d8, _⟩ := hd
       have q : a'.tmps[23]? = some (us 8) := by rw [ha.out]; kernel_rfl
       rw [show us 8 = .bool false from d8] at q
       exact wanted_some rfl rfl q
      intro us vals w3 a' ha hle hW hd hv K hK
      obtain ⟨d10, _, _⟩ := hd
      have q25 : a'.tmps[25]? = some (us 10) := by rw [ha.out]; kernel_rfl
      rw [show us 10 = .int .i64 1 from d10] at q25
      exact sV (v := .bool true) hK rfl
     ·refine stageOf_free rfl (fun us vals w3 a' ha hd => ?_) ?_
      ·obtain ⟨_, d8, _, _⟩ := hd
       have q : a'.tmps[23]? = some (us 8) := by rw [ha.out]; kernel_rfl
       rw [show us 8 = .bool false from d8] at q
       exact wanted_some rfl rfl q
      intro us vals w3 a' ha hle hW hd hv K hK
      obtain ⟨d11, _, _, _⟩ := hd
      have q26 : a'.tmps[26]? = some (us 11) := by rw [ha.out]; kernel_rfl
      rw [show us 11 = .bool true from d11] at q26
      exact sV hK rfl
     ·refine stageOf_free rfl (fun us vals w3 a' ha hd => ?_) ?_
      ·obtain ⟨d12, _⟩ := hd
       have q : a'.tmps[27]? = some (us 12) := by rw [ha.out]; kernel_rfl
       rw [show us 12 = .bool true from d12] at q
       exact wanted_some rfl rfl q
      intro us vals w3 a' ha hle hW hd hv K hK
      have q6 : a'.tmps[6]? = some (.slice (some ⟨b, off, none⟩) 1 cb) := by rw [ha.out]; kernel_rfl
      exact sV hK rfl
     ·refine stageOf_free rfl (fun us vals w3 a' ha hd => ?_) ?_
      ·obtain ⟨_, d12, _⟩ := hd
       have q : a'.tmps[27]? = some (us 12) := by rw [ha.out]; kernel_rfl
       rw [show us 12 = .bool true from d12] at q
       exact wanted_some rfl rfl q
      intro us vals w3 a' ha hle hW hd hv K hK
      obtain ⟨d13, _, _⟩ := hd
      have q28 : a'.tmps[28]? = some (us 13) := by rw [ha.out]; kernel_rfl
      rw [show us 13 = .slice (some ⟨b, off, none⟩) 1 cb from d13] at q28
      exact sV (v := .pointer (some ⟨b, off, none⟩)) hK rfl
     ·refine stageOf_free rfl (fun us vals w3 a' ha hd => ?_) ?_
      ·obtain ⟨_, d12, _⟩ := hd
       have q : a'.tmps[27]? = some (us 12) := by rw [ha.out]; kernel_rfl
       rw [show us 12 = .bool true from d12] at q
       exact wanted_some rfl rfl q
      intro us vals w3 a' ha hle hW hd hv K hK
      obtain ⟨d14, _, _⟩ := hd
      have q29 : a'.tmps[29]? = some (us 14) := by rw [ha.out]; kernel_rfl
      rw [show us 14 = .pointer (some ⟨b, off, none⟩) from d14] at q29
      have hc : w3.cell? ⟨b, off, none⟩ = some (.int .u8 (x.toNat : Int)) := (hle.cell (p := ⟨b, off, none⟩) hbl hbg).trans hcx
      exact sV (v := .int .u8 (x.toNat : Int)) hK rfl
     ·refine stageOf_free rfl (fun us vals w3 a' ha hd => ?_) ?_
      ·obtain ⟨_, d12, _⟩ := hd
       have q : a'.tmps[27]? = some (us 12) := by rw [ha.out]; kernel_rfl
       rw [show us 12 = .bool true from d12] at q
       exact wanted_some rfl rfl q
      intro us vals w3 a' ha hle hW hd hv K hK
      obtain ⟨d15, _, _⟩ := hd
      have q30 : a'.tmps[30]? = some (us 15) := by rw [ha.out]; kernel_rfl
      rw [show us 15 = .int .u8 (x.toNat : Int) from d15] at q30
      refine step_value (v := .bool is) (w2 := w3) ?_ (hK _ _ (Grow.refl _) rfl)
      rw [Hc.out]
      go_simp
     ·refine stageOf_free rfl (fun us vals w3 a' ha hd => ?_) ?_
      ·obtain ⟨_, _, d8, _⟩ := hd
       have q : a'.tmps[23]? = some (us 8) := by rw [ha.out]; kernel_rfl
       rw [show us 8 = .bool false from d8] at q
       exact wanted_some rfl rfl q
      intro us vals w3 a' ha hle hW hd hv K hK
      obtain ⟨d12, d16, _, _⟩ := hd
      have q27 : a'.tmps[27]? = some (us 12) := by rw [ha.out]; kernel_rfl
      rw [show us 12 = .bool true from d12] at q27
      have q31 : a'.tmps[31]? = some (us 16) := by rw [ha.out]; kernel_rfl
      rw [show us 16 = .bool is from d16] at q31
      exact sV (v := .bool is) hK rfl
     ·refine stageOf_free rfl (fun us vals w3 a' ha hd => ?_) ?_
      ·obtain ⟨_, _, d5, _⟩ := hd
       have q : a'.tmps[20]? = some (us 5) := by rw [ha.out]; kernel_rfl
       rw [show us 5 = .bool true from d5] at q
       exact wanted_some rfl rfl q
      intro us vals w3 a' ha hle hW hd hv K hK
      obtain ⟨d8, d17, _, _⟩ := hd
      have q23 : a'.tmps[23]? = some (us 8) := by rw [ha.out]; kernel_rfl
      rw [show us 8 = .bool false from d8] at q23
      have q32 : a'.tmps[32]? = some (us 17) := by rw [ha.out]; kernel_rfl
      rw [show us 17 = .bool is from d17] at q32
      exact sV (v := .bool is) hK rfl
     ·refine sF rfl rfl ?_
      intro us vals w3 a' ha hle hW hd hv K hK
      obtain ⟨d5, d18, _⟩ := hd
      have q20 : a'.tmps[20]? = some (us 5) := by rw [ha.out]; kernel_rfl
      rw [show us 5 = .bool true from d5] at q20
      have q33 : a'.tmps[33]? = some (us 18) := by rw [ha.out]; kernel_rfl
      rw [show us 18 = .bool is from d18] at q33
      exact sV (v := .bool is) hK rfl
     ·refine stageOf_mem (t := 0) rfl ?_
      intro us vals w3 a' ha hle hW hd hv
      obtain ⟨d2, d19, _, _⟩ := hd
      obtain rfl := List.eq_nil_of_length_eq_zero (Nat.le_zero.1 (show vals.length ≤ 0 from Nat.le_of_eq hv))
      refine ⟨wanted_none rfl, fun K hK => ?_⟩
      have q17 : a'.tmps[17]? = some (us 2) := by rw [ha.out]; kernel_rfl
      rw [show us 2 = .pointer (some ⟨g, 0, none⟩) from d2] at q17
      have q34 : a'.tmps[34]? = some (us 19) := by rw [ha.out]; kernel_rfl
      rw [show us 19 = .bool is from d19] at q34
      refine step_call (f := 96) (args := #[.pointer (some ⟨g, 0, none⟩), .bool is]) (by go_simp) ?_
      refine (must_any w3 g A1 n1 c1 l1 bad1 is hW.1).mono ?_
      rintro e w4 ⟨rfl, h5, h6⟩
      exact ⟨_, rfl, hK _ _ h6 ⟨h5, hW.2.trans' h6⟩⟩
    ·intro us vals w3 hle hvl hV _ hfa
     obtain ⟨x1, rfl⟩ := List.length_eq_one_iff.1 hvl
     have h15 : us 0 = _ := hfa 0 (by decide) rfl
     exact hM _ _ (Met.intro (hJ _ _ ⟨us 0, us 1, us 2, us 3, us 4, us 5, us 6, us 7, us 8, us 9, us 10, us 11, us 12, us 13, us 14, us 15, us 16, us 17, us 18, us 19, us 20, ⟨h15, by rw [Hb2.out]; exact hV.1, hV.2⟩, by kernel_rfl⟩))
  case rest =>
   obtain ⟨rfl, hd2, hk2⟩ := hcut
   have hc1 := hd2.cell.cell 1
   have hkx := (hkw.trans' hk1).trans' hk2
   cases b2 with
   | true =>
    have hnone : rdS st0 = none := by
     rw [He.out]
     rcases HT.out with ⟨-, -, h1 | h1, -⟩ | ⟨rfl, h2, rfl, rfl, -⟩
     ·rw [h1]; rfl
     ·rw [h1]
      simp only [Option.bind, WireM.rd]
      rfl
     ·have hz : WireM.rd (7 * j) (x :: l1) = none := by
       have hb := Hb2.out
       have hs := Hs.out
       have hisf : is = false := by cases is; rfl; cases hb
       rw [WireM.rd, if_pos]
       rcases HAs.out with ⟨h1, -⟩ | ⟨-, h1⟩ | ⟨h1, h3, h4, -⟩ | ⟨h1, h3, h4, h5⟩
       ·exact Or.inl (by omega)
       ·rw [h1] at hisf; cases hisf
       ·omega
       ·right
        rw [hisf] at h5
        have := of_decide_eq_false h5.symm
        omega
      simp only [stOf_false, Option.bind, hz]
      rfl
    go_wp2
    go_ret
    exact Fail.out _ _ _ _ _ hd2 (by rcases HT.out with ⟨-, -, -, rfl⟩ | ⟨-, -, -, rfl, -⟩; exact hll; simp at hll; omega) hkx hnone
   | false =>
    obtain ⟨rfl, hist⟩ : bad1 = false ∧ is = true := by
     have hb := Hb2.out
     cases bad1 with
     | true => exact absurd hb (by simp)
     | false =>
      cases is with
      | true => exact ⟨rfl, rfl⟩
      | false => exact absurd hb (by decide)
    rcases HT.out with ⟨h1, -⟩ | ⟨-, rfl, rfl, rfl, hbt, hap⟩
    ·cases h1
    ·obtain ⟨b, off, rfl, hbl, hcl⟩ := hbt.at_ (by omega)
     have hcx0 := hcl 0 x rfl
     rw [Nat.add_zero] at hcx0
     have hcx : wc.cell? ⟨b, off, none⟩ = some (.int .u8 (x.toNat : Int)) := (hk2.cell (p := ⟨b, off, none⟩) hbl (fun h => hap _ rfl h)).trans hcx0
     clear hcl hcx0
     have hs42 : s < 42 ∧ (s = 0 ∨ 0 < x.toNat) := by
      rcases HAs.out with ⟨h1, h2⟩ | ⟨h1, -⟩ | ⟨h1, h3, h4, -⟩ | ⟨h1, h3, h4, h5⟩
      ·rw [hist] at h2; cases h2
      ·exact ⟨by omega, Or.inl h1⟩
      ·omega
      ·rw [hist] at h5
       exact ⟨h3, Or.inr (of_decide_eq_true h5.symm)⟩
     have hs := Hs.out
     have hxl := x.toNat_lt
     have Hv := Lib.hid (join_val acc s x.toNat (by omega) (by rw [hs]; exact hacc) hxl)
     have hrd : rdS st0 = (if x.toNat < 128 then some (x.toNat * 2 ^ s, l1) else (WireM.rd (s + 7) l1).map fun p => (x.toNat % 128 * 2 ^ s + p.1, p.2)).map fun p => (acc + p.1, p.2) := by
      rw [He.out, stOf_false, Option.bind, ← hs, WireM.rd, if_neg (by omega)]
     have Hrd := Lib.hid hrd
     have hll1 : l1.length ≤ l0.length := by simp at hll; omega
     clear hrd hs
     by_cases hx : x.toNat < 128
     ·have hxi : (x.toNat : Int) < 128 := by omega
      go_upto_region 11 with (fail)
      rw [Hv.out]
      obtain ⟨N, hN⟩ : ∃ N, N = acc + x.toNat % 128 * 2 ^ s := ⟨_, rfl⟩
      have hNlt : N < 8796093022208 := by
       have h1 := join_lt s x.toNat (by have := Hs.out; omega)
       have h2 : 2 ^ (7 * j) ≤ 2 ^ 35 := Nat.pow_le_pow_right (by omega) (by have := Hs.out; omega)
       omega
      have Hsome := Lib.hid (show rdS st0 = some (N, l1) by rw [Hrd.out, if_pos hx, hN, Nat.mod_eq_of_lt hx]; rfl)
      rw [← hN]
      clear hN
      by_cases h1 : (N : Int) ≤ most
      ·by_cases h2 : (N : Int) ≤ 1099511627776
       ·go_wp2_with (go_at_call 96; refine (must_any _ g A1 n1 c1 l1 false true hd2).mono ?_; rintro e w5 ⟨rfl, h5', hk5⟩; have h5 : Rd w5 g A1 n1 c1 l1 false := h5'; have hc5 := h5.cell.cell 1)
        go_ret
        have hnum : r = (N, some l1) := by rw [Hr.out, num_some Hsome.out, if_pos (by simp only [maxNum]; omega)]
        rw [hnum]
        exact ⟨rfl, A1, n1, c1, l1, false, h5, rfl, hll1, hkx.trans' hk5⟩
       ·go_wp2_with (go_at_call 96; refine (must_any _ g A1 n1 c1 l1 false false hd2).mono ?_; rintro e w5 ⟨rfl, h5', hk5⟩; have h5 : Rd w5 g A1 n1 c1 l1 true := h5'; have hc5 := h5.cell.cell 1)
        go_ret
        have hnum : r = (0, none) := by rw [Hr.out, num_some Hsome.out, if_neg (by simp only [maxNum]; omega)]
        rw [hnum]
        exact ⟨rfl, A1, n1, c1, l1, true, h5, rfl, hll1, hkx.trans' hk5⟩
      ·go_wp2_with (go_at_call 96; refine (must_any _ g A1 n1 c1 l1 false false hd2).mono ?_; rintro e w5 ⟨rfl, h5', hk5⟩; have h5 : Rd w5 g A1 n1 c1 l1 true := h5'; have hc5 := h5.cell.cell 1)
       go_ret
       have hnum : r = (0, none) := by rw [Hr.out, num_some Hsome.out, if_neg (by simp only [maxNum]; omega)]
       rw [hnum]
       exact ⟨rfl, A1, n1, c1, l1, true, h5, rfl, hll1, hkx.trans' hk5⟩
     ·have hxi : ¬ (x.toNat : Int) < 128 := by omega
      go_wp2
      rw [Hv.out]
      go_roundw
      case rel =>
       have hs := Hs.out
       refine ⟨j + 1, acc + x.toNat % 128 * 2 ^ s, rfl, by rw [hs]; go_num, ⟨⟨A1, n1, c1, l1, false, hd2, (fun h => by cases h), hll1, ?_⟩, hkx, by omega, ?_⟩⟩
       ·rw [Hrd.out, if_neg hx, stOf_false, Option.bind, show 7 * (j + 1) = s + 7 by omega, Option.map_map]
        congr 1
        funext p
        simp [Nat.add_assoc]
       ·have h5 : x.toNat % 128 * 2 ^ s ≤ 127 * 2 ^ s := Nat.mul_le_mul_right _ (by omega)
        have h6 : 2 ^ (7 * (j + 1)) = 128 * 2 ^ s := by rw [show 7 * (j + 1) = 7 + s by omega, Nat.pow_add]
        rw [← hs] at hacc
        omega
      case measure => simp [intOf]; omega
end Go.Proofs.YtcimkoehcdfjdaaGreatDoor
