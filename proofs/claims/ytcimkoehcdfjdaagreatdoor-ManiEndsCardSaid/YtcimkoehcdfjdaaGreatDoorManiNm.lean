/-
  Plain mathematics of the names of shards (layer 25): a name tells its number, and no other one has it; the document's reading of a name, digit by digit, tells the same. No program is in sight.
  The walks of mani's Now, Next, shard, Name and Num.
-/
import Derived.Lib.AtoiAllCases
import Derived.Lib.ItoaNum
import Derived.Lib.Strings
import Derived.Test.YtcimkoehcdfjdaaGreatDoorManiMath
import Derived.Lib.ItoaLen
import Derived.Test.YtcimkoehcdfjdaaGreatDoorShelf
import Derived.Test.YtcimkoehcdfjdaaGreatDoorManiBase
namespace Go.Proofs.YtcimkoehcdfjdaaGreatDoor.WireM
open Go.Lib
set_option linter.unusedVariables false

def nameB (n : Int) : List UInt8 := if n < 1 ∨ 1099511627776 < n then [] else 115 :: 46 :: itoa n
def numB (l : List UInt8) : Int × Bool :=
 match hasPrefix l [115, 46], atoiAll (trimPrefix l [115, 46]) with
 | true, .ok v => if nameB v = l then (v, true) else (0, false)
 | _, _ => (0, false)

theorem dg_back {c : UInt8} (h1 : 48 ≤ c.toNat) (h2 : c.toNat ≤ 57) : UInt8.ofNat (48 + (c.toNat - 48)) = c := by
 rw [show 48 + (c.toNat - 48) = c.toNat by omega]
 simp
theorem dg_nat {u : Nat} (h : u < 10) : (UInt8.ofNat (48 + u)).toNat = 48 + u := by
 rw [UInt8.toNat_ofNat']
 omega
theorem dec_small {u : Nat} (h : u < 10) : decDigits u = [UInt8.ofNat (48 + u)] := by rw [decDigits, dif_pos h]
theorem dec_big {u : Nat} (h : ¬ u < 10) : decDigits u = decDigits (u / 10) ++ [UInt8.ofNat (48 + u % 10)] := by rw [decDigits, dif_neg h]
theorem parse_snoc (c : UInt8) : ∀ (a : List UInt8) (acc u : Nat), parseUint10 acc a = .ok u → 48 ≤ c.toNat → c.toNat ≤ 57 → u < 1844674407370955162 → u * 10 + (c.toNat - 48) < 18446744073709551616 → parseUint10 acc (a ++ [c]) = .ok (u * 10 + (c.toNat - 48))
 | [], acc, u, h, h1, h2, h3, h4 => by
  simp only [parseUint10] at h
  injection h with h
  subst h
  rw [List.nil_append, parseUint10, if_pos ⟨h1, h2⟩, if_neg (by omega), if_neg (by omega), parseUint10]
 | x :: a, acc, u, h, h1, h2, h3, h4 => by
  rw [parseUint10] at h
  rw [List.cons_append, parseUint10]
  split at h
  ·rename_i q
   rw [if_pos q]
   split at h
   ·cases h
   ·rename_i q2
    rw [if_neg q2]
    split at h
    ·cases h
    ·rename_i q3
     rw [if_neg q3]
     exact parse_snoc c a _ u h h1 h2 h3 h4
  ·cases h
theorem parse_dec (u : Nat) (hu : u < 18446744073709551616) : parseUint10 0 (decDigits u) = .ok u := by
 induction u using Nat.strongRecOn with
 | _ u ih =>
  by_cases h : u < 10
  ·rw [dec_small h, parseUint10, dg_nat h, if_pos ⟨by omega, by omega⟩, if_neg (by omega), if_neg (by omega), parseUint10]
   congr 1
   omega
  ·rw [dec_big h]
   have h1 := dg_nat (Nat.mod_lt u (show 10 > 0 by omega))
   have := parse_snoc (UInt8.ofNat (48 + u % 10)) (decDigits (u / 10)) 0 (u / 10) (ih (u / 10) (by omega) (by omega)) (by omega) (by omega) (by omega) (by omega)
   rw [this]
   congr 1
   omega
theorem dec_head (u : Nat) : ∃ c r, decDigits u = c :: r ∧ 48 ≤ c.toNat ∧ c.toNat ≤ 57 ∧ (1 ≤ u → c.toNat ≠ 48) := by
 induction u using Nat.strongRecOn with
 | _ u ih =>
  by_cases h : u < 10
  ·have := dg_nat h
   exact ⟨_, [], dec_small h, by omega, by omega, fun _ => by omega⟩
  ·obtain ⟨c, r, h1, h2, h3, h4⟩ := ih (u / 10) (by omega)
   rw [dec_big h, h1]
   exact ⟨c, _, rfl, h2, h3, fun _ => h4 (by omega)⟩
theorem atoi_dec (u : Nat) (hu : u < 9223372036854775808) : atoiAll (decDigits u) = .ok (u : Int) := by
 have hp := parse_dec u (by omega)
 obtain ⟨c, r, h1, h2, h3, h4⟩ := dec_head u
 rw [h1] at hp ⊢
 rw [atoiAll_plain c r (by omega) (by omega), parseMag, if_neg (by simp), hp, signless, if_neg (by omega)]
theorem nameB_yes {n : Int} (h : 1 ≤ n) (h2 : n ≤ 1099511627776) : nameB n = 115 :: 46 :: decDigits n.toNat := by
 rw [nameB, if_neg (by omega), itoa, if_neg (by omega)]
theorem nameB_no {n : Int} (h : ¬ (1 ≤ n ∧ n ≤ 1099511627776)) : nameB n = [] := by rw [nameB, if_pos (by omega)]
theorem numB_name {n : Int} (h : 1 ≤ n) (h2 : n ≤ 1099511627776) : numB (nameB n) = (n, true) := by
 have e : nameB n = 115 :: 46 :: decDigits n.toNat := nameB_yes h h2
 have h3 : hasPrefix (nameB n) [115, 46] = true := by rw [e]; simp [hasPrefix]
 have h4 : trimPrefix (nameB n) [115, 46] = decDigits n.toNat := by rw [trimPrefix, h3, if_pos rfl, e]; rfl
 rw [numB, h3, h4, atoi_dec _ (by omega)]
 simp only
 rw [Int.toNat_of_nonneg (by omega), if_pos rfl]
theorem numB_cases (l : List UInt8) : numB l = (0, false) ∨ ∃ v, numB l = (v, true) ∧ nameB v = l ∧ 1 ≤ v ∧ v ≤ 1099511627776 := by
 unfold numB
 split
 ·rename_i v hp hv
  split
  ·rename_i he
   refine Or.inr ⟨v, rfl, he, ?_⟩
   by_cases h : 1 ≤ v ∧ v ≤ 1099511627776
   ·exact h
   ·rw [nameB_no h] at he
    subst he
    simp [hasPrefix] at hp
  ·exact Or.inl rfl
 ·exact Or.inl rfl
theorem numB_true {l : List UInt8} {v : Int} (h : numB l = (v, true)) : nameB v = l ∧ 1 ≤ v ∧ v ≤ 1099511627776 := by
 rcases numB_cases l with q | ⟨x, q, h2⟩
 ·rw [h] at q; cases q
 ·rw [h] at q; cases q; exact h2
/-! the document's reading -/
def refAll : Nat → List UInt8 → Option Nat
 | acc, [] => some acc
 | acc, c :: r => if c.toNat < 48 ∨ 57 < c.toNat ∨ 1099511627776 < acc then none else refAll (10 * acc + (c.toNat - 48)) r
def refNum (l : List UInt8) : Int × Bool :=
 match l with
 | a :: b :: c :: r => if a = 115 ∧ b = 46 ∧ c ≠ 48 then
   match refAll 0 (c :: r) with
   | some n => if n ≤ 1099511627776 then ((n : Int), true) else (0, false)
   | none => (0, false)
  else (0, false)
 | _ => (0, false)
theorem refAll_snoc (c : UInt8) : ∀ (a : List UInt8) (acc : Nat), refAll acc (a ++ [c]) = (refAll acc a).bind fun u => if c.toNat < 48 ∨ 57 < c.toNat ∨ 1099511627776 < u then none else some (10 * u + (c.toNat - 48))
 | [], acc => rfl
 | x :: a, acc => by
  rw [List.cons_append, refAll, refAll]
  split
  ·rfl
  ·exact refAll_snoc c a _
theorem ref_dec (v : Nat) (h : v ≤ 1099511627776) : refAll 0 (decDigits v) = some v := by
 induction v using Nat.strongRecOn with
 | _ v ih =>
  by_cases h9 : v < 10
  ·rw [dec_small h9, refAll, dg_nat h9, if_neg (by omega), refAll]
   congr 1
   omega
  ·rw [dec_big h9, refAll_snoc, ih (v / 10) (by omega) (by omega), Option.bind_some, dg_nat (Nat.mod_lt v (by omega)), if_neg (by omega)]
   congr 1
   omega
theorem dec_of_ref (l : List UInt8) : ∀ n, refAll 0 l = some n → l ≠ [] → (∀ c, l.head? = some c → c ≠ 48) → decDigits n = l ∧ 1 ≤ n := by
 induction hk : l.length generalizing l with
 | zero => intro n _ h; rw [List.length_eq_zero_iff] at hk; exact absurd hk h
 | succ k ih =>
  intro n hn _ hh
  obtain ⟨a, c, rfl⟩ : ∃ a c, l = a ++ [c] := by
   have hl : l ≠ [] := by intro e; rw [e] at hk; cases hk
   exact ⟨l.dropLast, l.getLast hl, (List.dropLast_concat_getLast hl).symm⟩
  rw [refAll_snoc] at hn
  cases a with
  | nil =>
   have hc := hh c rfl
   simp only [refAll, Option.bind_some] at hn
   split at hn
   ·cases hn
   ·injection hn with hn
    have hc2 : c.toNat ≠ 48 := fun e => hc (UInt8.toNat_inj.1 e)
    have e : n = c.toNat - 48 := by omega
    refine ⟨?_, by omega⟩
    rw [dec_small (by omega), e, dg_back (by omega) (by omega)]
    rfl
  | cons x a =>
   cases hu : refAll 0 (x :: a) with
   | none => rw [hu] at hn; cases hn
   | some u =>
    rw [hu, Option.bind_some] at hn
    obtain ⟨p1, p2⟩ := ih (x :: a) (by simp at hk ⊢; omega) u hu (by simp) (fun y hy => hh y (by simpa using hy))
    split at hn
    ·cases hn
    ·injection hn with hn
     refine ⟨?_, by omega⟩
     rw [dec_big (by omega), show n / 10 = u by omega, p1, show n % 10 = c.toNat - 48 by omega, dg_back (by omega) (by omega)]
theorem refNum_numB (l : List UInt8) : refNum l = numB l := by
 have key : ∀ n : Int, refNum l = (n, true) → numB l = (n, true) := fun n h => by
  match l, h with
  | a :: b :: c :: r, h =>
   rw [refNum] at h
   split at h
   ·rename_i q
    obtain ⟨rfl, rfl, q⟩ := q
    split at h
    ·rename_i u hu
     split at h
     ·rename_i hm
      obtain ⟨p1, p2⟩ := dec_of_ref (c :: r) u hu (by simp) (fun y hy => by simp at hy; rw [← hy]; exact q)
      injection h with h
      have := numB_name (n := (u : Int)) (by omega) (by omega)
      rw [nameB_yes (by omega) (by omega), Int.toNat_natCast, p1] at this
      rw [this, h]
     ·cases h
    ·cases h
   ·cases h
  | [], h => cases h
  | [_], h => cases h
  | [_, _], h => cases h
 have key2 : ∀ n : Int, numB l = (n, true) → refNum l = (n, true) := fun n h => by
  obtain ⟨e, h1, h2⟩ := numB_true h
  rw [nameB_yes h1 h2] at e
  subst e
  obtain ⟨c, r, p1, p2, p3, p4⟩ := dec_head n.toNat
  have p5 := ref_dec n.toNat (by omega)
  rw [p1] at p5 ⊢
  rw [refNum, if_pos ⟨rfl, rfl, fun e => p4 (by omega) (by rw [e]; rfl)⟩, p5]
  simp only
  rw [if_pos (by omega), Int.toNat_of_nonneg (by omega)]
 have sh : refNum l = (0, false) ∨ ∃ n, refNum l = (n, true) := by
  unfold refNum
  split
  ·split
   ·split
    ·split
     ·exact Or.inr ⟨_, rfl⟩
     ·exact Or.inl rfl
    ·exact Or.inl rfl
   ·exact Or.inl rfl
  ·exact Or.inl rfl
 rcases sh with h | ⟨n, h⟩
 ·rcases numB_cases l with q | ⟨v, q, _⟩
  ·rw [h, q]
  ·rw [key2 v q] at h; cases h
 ·rw [h, key n h]
end Go.Proofs.YtcimkoehcdfjdaaGreatDoor.WireM

namespace Go.Proofs.YtcimkoehcdfjdaaGreatDoor
open Go.RowKit WireM
set_option linter.unusedVariables false

structure LaidOk (w : World) : Prop where
 tab : Lib.TabIs Tryz.prog w "internal/strconv.uint64pow10" .u64 Lib.pow10Tab
 syn : ∃ tp p, w.var? Tryz.prog "strconv.ErrSyntax" = some #[.iface tp p]
 rng : ∃ tp p, w.var? Tryz.prog "strconv.ErrRange" = some #[.iface tp p]
theorem var_grow {P : Program} {w w' : World} {s : String} {cs : Array Value} (h : w.var? P s = some cs) (hG : Grow w w') : w'.var? P s = some cs := by
 unfold World.var? at h ⊢
 cases hg : P.globalNamed s with
 | none => rw [hg] at h; cases h
 | some g =>
  rw [hg, Option.bind_some] at h
  rw [Option.bind_some]
  cases hb : w.heap[g]? with
  | none => rw [hb] at h; cases h
  | some o =>
   rw [hG.block g (Array.getElem?_eq_some_iff.1 hb).1]
   exact h
theorem LaidOk.grow {w w' : World} (h : LaidOk w) (hG : Grow w w') : LaidOk w' := by
 obtain ⟨h1, ⟨tp, p, h2⟩, ⟨tq, q, h3⟩⟩ := h
 exact ⟨var_grow h1 hG, ⟨tp, p, var_grow h2 hG⟩, ⟨tq, q, var_grow h3 hG⟩⟩

theorem sort_grow (w : World) (k : Nat) (os : Array Obj) : Grow w (Sort.grow (w.drewN k) os) :=
 ⟨rfl, rfl, rfl, by simp [Sort.grow], fun j hj => by
  show (w.heap ++ os)[j]? = w.heap[j]?
  rw [Array.getElem?_append_left hj]⟩
theorem Now_any (w : World) : Calls Tryz.prog 29 #[] w fun e w' => e = .returned (.string ⟨#[109]⟩) ∧ w = w' := by
 go_enter Tryz.func29, Tryz.ntmps29
 go_wp2
 go_ret
 exact ⟨rfl, rfl⟩
theorem Next_any (w : World) : Calls Tryz.prog 30 #[] w fun e w' => e = .returned (.string ⟨#[109, 46, 110, 101, 119]⟩) ∧ w = w' := by
 go_enter Tryz.func30, Tryz.ntmps30
 go_wp2
 go_ret
 exact ⟨rfl, rfl⟩
theorem shard_any (w : World) : Calls Tryz.prog 55 #[] w fun e w' => e = .returned (.string ⟨#[115, 46]⟩) ∧ w = w' := by
 go_enter Tryz.func55, Tryz.ntmps55
 go_wp2
 go_ret
 exact ⟨rfl, rfl⟩
theorem Name_any (w : World) (n : Int) (h0 : -9223372036854775808 ≤ n) (h1 : n ≤ 9223372036854775807) (hL : LaidOk w) :
  Calls Tryz.prog 28 #[.int .i64 n] w fun e w' => e = .returned (.string ⟨(nameB n).toArray⟩) ∧ Grow w w' := by
 by_cases h : n < 1
 ·have d1 : decide (n < 1) = true := decide_eq_true h
  have hn : nameB n = [] := nameB_no (by omega)
  go_enter Tryz.func28, Tryz.ntmps28
  go_wp2
  go_ret
  exact ⟨by first | rfl | (rw [hn]; rfl), Grow.refl _⟩
 ·have d1 : decide (n < 1) = false := decide_eq_false h
  by_cases h2 : 1099511627776 < n
  ·have d2 : decide (1099511627776 < n) = true := decide_eq_true h2
   have hn : nameB n = [] := nameB_no (by omega)
   go_enter Tryz.func28, Tryz.ntmps28
   go_wp2
   go_ret
   exact ⟨by first | rfl | (rw [hn]; rfl), Grow.refl _⟩
  ·have d2 : decide (1099511627776 < n) = false := decide_eq_false h2
   have hlen := Lib.itoa_length_le n h0 h1
   have hls : ¬ (9223372036854775807 < 2 + (Lib.itoa n).length) := by omega
   have hn : (({ data := #[115, 46] } : ByteArray) ++ { data := (Lib.itoa n).toArray }) = ⟨(nameB n).toArray⟩ := by
    rw [nameB, if_neg (by omega)]
    apply ByteArray.ext
    simp
   go_enter Tryz.func28, Tryz.ntmps28
   go_wp2_with (first | (go_at_call 55; refine (shard_any _).mono ?_; rintro e w' ⟨rfl, rfl⟩) | (go_at_call 58; refine (Tryz.strconv_Itoa n h0 h1 _ hL.tab).mono ?_; rintro e w' ⟨rfl, k, os, rfl⟩))
   go_ret
   exact ⟨by rw [← hn]; rfl, sort_grow w k os⟩

theorem trim_le (s p : List UInt8) : (Lib.trimPrefix s p).length ≤ s.length := by
 unfold Lib.trimPrefix
 split
 ·simp
 ·exact Nat.le_refl _
def AtoiTo (w : World) (l : List UInt8) (e : Ending) (w' : World) : Prop :=
 ∃ (v : Int) (ev : Value), e = .returned (.tuple #[.int .i64 v, ev]) ∧ Grow w w' ∧ (-9223372036854775808 ≤ v ∧ v ≤ 9223372036854775807) ∧ ((Lib.atoiAll l = .ok v ∧ ev = .nilIface) ∨ ((∀ x, Lib.atoiAll l ≠ .ok x) ∧ ∃ t p, ev = .iface t p))
theorem Atoi_any (w : World) (s : ByteArray) (hs : s.size ≤ 281474976710656) (hL : LaidOk w) : Calls Tryz.prog 56 #[.string s] w (AtoiTo w s.data.toList) := by
 obtain ⟨a, ha⟩ : ∃ a, Lib.atoiAll s.data.toList = a := ⟨_, rfl⟩
 cases a with
 | ok v =>
  refine (Tryz.strconv_Atoi_ok s (by omega) v ha w).mono ?_
  rintro e w' ⟨rfl, hw⟩
  refine ⟨v, _, rfl, ?_, Lib.atoiAll_bounds ha, Or.inl ⟨ha, rfl⟩⟩
  rcases hw with rfl | ⟨t, rfl⟩
  ·exact Grow.refl _
  ·exact Lib.bytesWorld_below _ _ _
 | range =>
  obtain ⟨tp, p, hv⟩ := hL.rng
  refine (Tryz.strconv_Atoi_range_var s hs ha tp p w hv).mono ?_
  rintro e w' ⟨N, rfl, -, -, hb⟩
  exact ⟨_, _, rfl, hb, Lib.atoiSat_bounds _, Or.inr ⟨fun x h => by rw [ha] at h; (cases h), _, _, rfl⟩⟩
 | _ =>
  obtain ⟨tp, p, hv⟩ := hL.syn
  refine (Tryz.strconv_Atoi_syntax_var s hs ha tp p w hv).mono ?_
  rintro e w' ⟨N, rfl, -, -, hb⟩
  exact ⟨0, _, rfl, hb, by omega, Or.inr ⟨fun x h => by rw [ha] at h; (cases h), _, _, rfl⟩⟩
theorem CutPrefix_any (w : World) (s : ByteArray) : Calls Tryz.prog 54 #[.string s, .string ⟨#[115, 46]⟩] w fun e w' => e = .returned (.tuple #[.string ⟨(Lib.trimPrefix s.data.toList [115, 46]).toArray⟩, .bool (Lib.hasPrefix s.data.toList [115, 46])]) ∧ w = w' :=
 (Tryz.strings_CutPrefix s _ w).mono fun e w' h => ⟨h.1, h.2.symm⟩
theorem Num_any (w : World) (s : ByteArray) (hs : s.size ≤ 281474976710656) (hL : LaidOk w) (v : Int) (ok : Bool) (hv : Hid ((v, ok) = numB s.data.toList)) :
  Calls Tryz.prog 26 #[.string s] w fun e w' => e = .returned (.tuple #[.int .i64 v, .bool ok]) ∧ Grow w w' := by
 have HC := Lib.hid (CutPrefix_any w s)
 obtain ⟨D, hD⟩ : ∃ D, D = Lib.trimPrefix s.data.toList [115, 46] := ⟨_, rfl⟩
 have hDl : D.length ≤ s.size := by rw [hD]; exact trim_le _ _
 have HA := Lib.hid (Atoi_any w ⟨D.toArray⟩ (by show D.toArray.size ≤ _; simp; omega) hL)
 obtain ⟨b, hb⟩ : ∃ b, b = Lib.hasPrefix s.data.toList [115, 46] := ⟨_, rfl⟩
 rw [← hD, ← hb] at HC
 have HD := Lib.hid hD
 have Hb := Lib.hid hb
 clear hD hb
 cases b with
 | false =>
  have e0 : numB s.data.toList = (0, false) := by unfold numB; rw [← Hb.out]
  have hv2 := hv.out
  rw [e0] at hv2
  injection hv2 with h1 h2
  subst h1 h2
  go_enter Tryz.func26, Tryz.ntmps26
  go_wp2_with (first | (go_at_call 55; refine (shard_any _).mono ?_; rintro e w' ⟨rfl, rfl⟩) | (go_at_call 54; refine HC.out.mono ?_; rintro e w' ⟨rfl, rfl⟩) | (go_at_call 56; refine HA.out.mono ?_; rintro e w1 ⟨x, ev, rfl, hG, hx, hcase⟩))
  go_ret2
  exact ⟨rfl, hG⟩
 | true =>
  have HA2 : Hid (Calls Tryz.prog 56 #[.string ⟨D.toArray⟩] w (AtoiTo w D)) := HA
  clear HA
  obtain ⟨a, ha⟩ : ∃ a, Lib.atoiAll D = a := ⟨_, rfl⟩
  have Ha := Lib.hid ha
  clear ha
  by_cases hok : ∃ x, a = .ok x
  ·obtain ⟨x, rfl⟩ := hok
   have HA : Hid (Calls Tryz.prog 56 #[.string ⟨D.toArray⟩] w fun e w' => e = .returned (.tuple #[.int .i64 x, .nilIface]) ∧ Grow w w' ∧ (-9223372036854775808 ≤ x ∧ x ≤ 9223372036854775807)) := HA2.out.mono fun e w' ⟨y, ev, h1, h2, h3, h4⟩ => by
    rcases h4 with ⟨h5, rfl⟩ | ⟨h5, -⟩
    ·rw [Ha.out] at h5
     injection h5 with h5
     subst h5
     exact ⟨h1, h2, h3⟩
    ·exact absurd Ha.out (h5 x)
   have e0 : numB s.data.toList = if nameB x = s.data.toList then (x, true) else (0, false) := by
    unfold numB
    rw [← Hb.out, ← HD.out, Ha.out]
   by_cases hn : nameB x = s.data.toList
   ·have hv2 := hv.out
    rw [e0, if_pos hn] at hv2
    injection hv2 with h1 h2
    subst h1 h2
    clear hv e0 HA2
    go_enter Tryz.func26, Tryz.ntmps26
    go_wp2_with (first | (go_at_call 55; refine (shard_any _).mono ?_; rintro e w' ⟨rfl, rfl⟩) | (go_at_call 54; refine HC.out.mono ?_; rintro e w' ⟨rfl, rfl⟩) | (go_at_call 56; refine HA.out.mono ?_; rintro e w1 ⟨rfl, hG, hx1, hx2⟩))
    refine (Name_any w1 v hx1 hx2 (hL.grow hG)).mono ?_
    rintro e w2 ⟨rfl, hG2⟩
    go_wp2
    go_ret2
    exact ⟨rfl, Below.trans hG (Below.mono hG2 hG.size)⟩
   ·have hv2 := hv.out
    rw [e0, if_neg hn] at hv2
    injection hv2 with h1 h2
    subst h1 h2
    have hne : (nameB x == s.toList) = false := by rw [beq_eq_false_iff_ne, Lib.toList_data]; exact hn
    clear hv e0 HA2
    go_enter Tryz.func26, Tryz.ntmps26
    go_wp2_with (first | (go_at_call 55; refine (shard_any _).mono ?_; rintro e w' ⟨rfl, rfl⟩) | (go_at_call 54; refine HC.out.mono ?_; rintro e w' ⟨rfl, rfl⟩) | (go_at_call 56; refine HA.out.mono ?_; rintro e w1 ⟨rfl, hG, hx1, hx2⟩))
    refine (Name_any w1 x hx1 hx2 (hL.grow hG)).mono ?_
    rintro e w2 ⟨rfl, hG2⟩
    go_wp2
    go_ret2
    exact ⟨rfl, Below.trans hG (Below.mono hG2 hG.size)⟩
  ·have HA : Hid (Calls Tryz.prog 56 #[.string ⟨D.toArray⟩] w fun e w' => ∃ (x : Int) (t : TypeId) (p : Value), e = .returned (.tuple #[.int .i64 x, .iface t p]) ∧ Grow w w') := HA2.out.mono fun e w' ⟨y, ev, h1, h2, h3, h4⟩ => by
    rcases h4 with ⟨h5, rfl⟩ | ⟨-, t, p, rfl⟩
    ·rw [Ha.out] at h5
     exact absurd ⟨y, h5⟩ hok
    ·exact ⟨y, t, p, h1, h2⟩
   have e0 : numB s.data.toList = (0, false) := by
    unfold numB
    rw [← Hb.out, ← HD.out, Ha.out]
    cases a with
    | ok x => exact absurd ⟨x, rfl⟩ hok
    | range => rfl
    | _ => rfl
   have hv2 := hv.out
   rw [e0] at hv2
   injection hv2 with h1 h2
   subst h1 h2
   clear hv e0 HA2 hok
   go_enter Tryz.func26, Tryz.ntmps26
   go_wp2_with (first | (go_at_call 55; refine (shard_any _).mono ?_; rintro e w' ⟨rfl, rfl⟩) | (go_at_call 54; refine HC.out.mono ?_; rintro e w' ⟨rfl, rfl⟩) | (go_at_call 56; refine HA.out.mono ?_; rintro e w1 ⟨x, t, p, rfl, hG⟩))
   go_ret2
   exact ⟨rfl, hG⟩
end Go.Proofs.YtcimkoehcdfjdaaGreatDoor
