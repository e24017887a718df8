/-
  Plain mathematics of the names of shards (layer 25): a name tells its number, and no other one has it; the document's reading of a name, digit by digit, tells the same. No program is in sight.
-/
import Derived.Lib.AtoiAllCases
import Derived.Lib.ItoaNum
import Derived.Lib.Strings
import Derived.Test.YtcimkoehcdfjdaaDoorManiMath
namespace Go.Proofs.YtcimkoehcdfjdaaDoor.WireM
open Go.Lib
set_option linter.unusedVariables false

def nameB (n : Int) : List UInt8 := if n < 1 ∨ 1099511627776 < n then [] else 115 :: 46 :: itoa n
def numB (l : List UInt8) : Int × Bool :=
  match hasPrefix l [115, 46], atoiAll (trimPrefix l [115, 46]) with
  | true, .ok v => if nameB v = l then (v, true) else (0, false)
  | _, _ => (0, false)

theorem dg_back {c : UInt8} (h1 : 48 ≤ c.toNat) (h2 : c.toNat ≤ 57) : UInt8.ofNat (48 + (c.toNat - 48)) = c := by
  rw [show 48 + (c.toNat - 48) = c.toNat by omega]
  simp
theorem dg_nat {u : Nat} (h : u < 10) : (UInt8.ofNat (48 + u)).toNat = 48 + u := by
  rw [UInt8.toNat_ofNat']
  omega
theorem dec_small {u : Nat} (h : u < 10) : decDigits u = [UInt8.ofNat (48 + u)] := by rw [decDigits, dif_pos h]
theorem dec_big {u : Nat} (h : ¬ u < 10) : decDigits u = decDigits (u / 10) ++ [UInt8.ofNat (48 + u % 10)] := by rw [decDigits, dif_neg h]
theorem parse_snoc (c : UInt8) : ∀ (a : List UInt8) (acc u : Nat), parseUint10 acc a = .ok u → 48 ≤ c.toNat → c.toNat ≤ 57 → u < 1844674407370955162 → u * 10 + (c.toNat - 48) < 18446744073709551616 → parseUint10 acc (a ++ [c]) = .ok (u * 10 + (c.toNat - 48))
  | [], acc, u, h, h1, h2, h3, h4 => by
    simp only [parseUint10] at h
    injection h with h
    subst h
    rw [List.nil_append, parseUint10, if_pos ⟨h1, h2⟩, if_neg (by omega), if_neg (by omega), parseUint10]
  | x :: a, acc, u, h, h1, h2, h3, h4 => by
    rw [parseUint10] at h
    rw [List.cons_append, parseUint10]
    split at h
    · rename_i q
      rw [if_pos q]
      split at h
      · cases h
      · rename_i q2
        rw [if_neg q2]
        split at h
        · cases h
        · rename_i q3
          rw [if_neg q3]
          exact parse_snoc c a _ u h h1 h2 h3 h4
    · cases h
theorem parse_dec (u : Nat) (hu : u < 18446744073709551616) : parseUint10 0 (decDigits u) = .ok u := by
  induction u using Nat.strongRecOn with
  | _ u ih =>
    by_cases h : u < 10
    · rw [dec_small h, parseUint10, dg_nat h, if_pos ⟨by omega, by omega⟩, if_neg (by omega), if_neg (by omega), parseUint10]
      congr 1
      omega
    · rw [dec_big h]
      have h1 := dg_nat (Nat.mod_lt u (show 10 > 0 by omega))
      have := parse_snoc (UInt8.ofNat (48 + u % 10)) (decDigits (u / 10)) 0 (u / 10) (ih (u / 10) (by omega) (by omega)) (by omega) (by omega) (by omega) (by omega)
      rw [this]
      congr 1
      omega
theorem dec_head (u : Nat) : ∃ c r, decDigits u = c :: r ∧ 48 ≤ c.toNat ∧ c.toNat ≤ 57 ∧ (1 ≤ u → c.toNat ≠ 48) := by
  induction u using Nat.strongRecOn with
  | _ u ih =>
    by_cases h : u < 10
    · have := dg_nat h
      exact ⟨_, [], dec_small h, by omega, by omega, fun _ => by omega⟩
    · obtain ⟨c, r, h1, h2, h3, h4⟩ := ih (u / 10) (by omega)
      rw [dec_big h, h1]
      exact ⟨c, _, rfl, h2, h3, fun _ => h4 (by omega)⟩
theorem atoi_dec (u : Nat) (hu : u < 9223372036854775808) : atoiAll (decDigits u) = .ok (u : Int) := by
  have hp := parse_dec u (by omega)
  obtain ⟨c, r, h1, h2, h3, h4⟩ := dec_head u
  rw [h1] at hp ⊢
  rw [atoiAll_plain c r (by omega) (by omega), parseMag, if_neg (by simp), hp, signless, if_neg (by omega)]
theorem nameB_yes {n : Int} (h : 1 ≤ n) (h2 : n ≤ 1099511627776) : nameB n = 115 :: 46 :: decDigits n.toNat := by
  rw [nameB, if_neg (by omega), itoa, if_neg (by omega)]
theorem nameB_no {n : Int} (h : ¬ (1 ≤ n ∧ n ≤ 1099511627776)) : nameB n = [] := by rw [nameB, if_pos (by omega)]
theorem numB_nil : numB [] = (0, false) := rfl
theorem numB_name {n : Int} (h : 1 ≤ n) (h2 : n ≤ 1099511627776) : numB (nameB n) = (n, true) := by
  have e : nameB n = 115 :: 46 :: decDigits n.toNat := nameB_yes h h2
  have h3 : hasPrefix (nameB n) [115, 46] = true := by rw [e]; simp [hasPrefix]
  have h4 : trimPrefix (nameB n) [115, 46] = decDigits n.toNat := by rw [trimPrefix, h3, if_pos rfl, e]; rfl
  rw [numB, h3, h4, atoi_dec _ (by omega)]
  simp only
  rw [Int.toNat_of_nonneg (by omega), if_pos rfl]
theorem numB_cases (l : List UInt8) : numB l = (0, false) ∨ ∃ v, numB l = (v, true) ∧ nameB v = l ∧ 1 ≤ v ∧ v ≤ 1099511627776 := by
  unfold numB
  split
  · rename_i v hp hv
    split
    · rename_i he
      refine Or.inr ⟨v, rfl, he, ?_⟩
      by_cases h : 1 ≤ v ∧ v ≤ 1099511627776
      · exact h
      · rw [nameB_no h] at he
        subst he
        simp [hasPrefix] at hp
    · exact Or.inl rfl
  · exact Or.inl rfl
theorem numB_true {l : List UInt8} {v : Int} (h : numB l = (v, true)) : nameB v = l ∧ 1 ≤ v ∧ v ≤ 1099511627776 := by
  rcases numB_cases l with q | ⟨x, q, h2⟩
  · rw [h] at q; cases q
  · rw [h] at q; cases q; exact h2
theorem numB_false {l : List UInt8} {v : Int} (h : numB l = (v, false)) : v = 0 := by
  rcases numB_cases l with q | ⟨x, q, h2⟩
  · rw [h] at q; cases q; rfl
  · rw [h] at q; cases q
theorem nameB_one {n m : Int} (h1 : 1 ≤ n) (h2 : n ≤ 1099511627776) (h : nameB m = nameB n) : m = n := by
  by_cases hm : 1 ≤ m ∧ m ≤ 1099511627776
  · have a := numB_name hm.1 hm.2
    have b := numB_name h1 h2
    rw [h, b] at a
    injection a with a
    exact a.symm
  · rw [nameB_no hm, nameB_yes h1 h2] at h
    cases h
theorem dec_len (u : Nat) (k : Nat) (h : u < 10 ^ (k + 1)) : (decDigits u).length ≤ k + 1 := by
  induction k generalizing u with
  | zero => rw [dec_small (by simpa using h)]; simp
  | succ k ih =>
    by_cases h9 : u < 10
    · rw [dec_small h9]; simp
    · have := ih (u / 10) (by rw [Nat.pow_succ] at h; omega)
      rw [dec_big h9, List.length_append]
      simp only [List.length_cons, List.length_nil]
      omega
theorem nameB_len (n : Int) : (nameB n).length ≤ 15 := by
  by_cases h : 1 ≤ n ∧ n ≤ 1099511627776
  · have := dec_len n.toNat 12 (by omega)
    rw [nameB_yes h.1 h.2]
    simp only [List.length_cons]
    omega
  · rw [nameB_no h]; simp
theorem numB_m : numB [109] = (0, false) := rfl
theorem numB_mnew : numB [109, 46, 110, 101, 119] = (0, false) := rfl

/-! the document's reading -/
def refAll : Nat → List UInt8 → Option Nat
  | acc, [] => some acc
  | acc, c :: r => if c.toNat < 48 ∨ 57 < c.toNat ∨ 1099511627776 < acc then none else refAll (10 * acc + (c.toNat - 48)) r
def refNum (l : List UInt8) : Int × Bool :=
  match l with
  | a :: b :: c :: r => if a = 115 ∧ b = 46 ∧ c ≠ 48 then
      match refAll 0 (c :: r) with
      | some n => if n ≤ 1099511627776 then ((n : Int), true) else (0, false)
      | none => (0, false)
    else (0, false)
  | _ => (0, false)
theorem refAll_snoc (c : UInt8) : ∀ (a : List UInt8) (acc : Nat), refAll acc (a ++ [c]) = (refAll acc a).bind fun u => if c.toNat < 48 ∨ 57 < c.toNat ∨ 1099511627776 < u then none else some (10 * u + (c.toNat - 48))
  | [], acc => rfl
  | x :: a, acc => by
    rw [List.cons_append, refAll, refAll]
    split
    · rfl
    · exact refAll_snoc c a _
theorem ref_dec (v : Nat) (h : v ≤ 1099511627776) : refAll 0 (decDigits v) = some v := by
  induction v using Nat.strongRecOn with
  | _ v ih =>
    by_cases h9 : v < 10
    · rw [dec_small h9, refAll, dg_nat h9, if_neg (by omega), refAll]
      congr 1
      omega
    · rw [dec_big h9, refAll_snoc, ih (v / 10) (by omega) (by omega), Option.bind_some, dg_nat (Nat.mod_lt v (by omega)), if_neg (by omega)]
      congr 1
      omega
theorem dec_of_ref (l : List UInt8) : ∀ n, refAll 0 l = some n → l ≠ [] → (∀ c, l.head? = some c → c ≠ 48) → decDigits n = l ∧ 1 ≤ n := by
  induction hk : l.length generalizing l with
  | zero => intro n _ h; rw [List.length_eq_zero_iff] at hk; exact absurd hk h
  | succ k ih =>
    intro n hn _ hh
    obtain ⟨a, c, rfl⟩ : ∃ a c, l = a ++ [c] := by
      have hl : l ≠ [] := by intro e; rw [e] at hk; cases hk
      exact ⟨l.dropLast, l.getLast hl, (List.dropLast_concat_getLast hl).symm⟩
    rw [refAll_snoc] at hn
    cases a with
    | nil =>
      have hc := hh c rfl
      simp only [refAll, Option.bind_some] at hn
      split at hn
      · cases hn
      · injection hn with hn
        have hc2 : c.toNat ≠ 48 := fun e => hc (UInt8.toNat_inj.1 e)
        have e : n = c.toNat - 48 := by omega
        refine ⟨?_, by omega⟩
        rw [dec_small (by omega), e, dg_back (by omega) (by omega)]
        rfl
    | cons x a =>
      cases hu : refAll 0 (x :: a) with
      | none => rw [hu] at hn; cases hn
      | some u =>
        rw [hu, Option.bind_some] at hn
        obtain ⟨p1, p2⟩ := ih (x :: a) (by simp at hk ⊢; omega) u hu (by simp) (fun y hy => hh y (by simpa using hy))
        split at hn
        · cases hn
        · injection hn with hn
          refine ⟨?_, by omega⟩
          rw [dec_big (by omega), show n / 10 = u by omega, p1, show n % 10 = c.toNat - 48 by omega, dg_back (by omega) (by omega)]
theorem refNum_numB (l : List UInt8) : refNum l = numB l := by
  have key : ∀ n : Int, refNum l = (n, true) → numB l = (n, true) := fun n h => by
    match l, h with
    | a :: b :: c :: r, h =>
      rw [refNum] at h
      split at h
      · rename_i q
        obtain ⟨rfl, rfl, q⟩ := q
        split at h
        · rename_i u hu
          split at h
          · rename_i hm
            obtain ⟨p1, p2⟩ := dec_of_ref (c :: r) u hu (by simp) (fun y hy => by simp at hy; rw [← hy]; exact q)
            injection h with h
            have := numB_name (n := (u : Int)) (by omega) (by omega)
            rw [nameB_yes (by omega) (by omega), Int.toNat_natCast, p1] at this
            rw [this, h]
          · cases h
        · cases h
      · cases h
    | [], h => cases h
    | [_], h => cases h
    | [_, _], h => cases h
  have key2 : ∀ n : Int, numB l = (n, true) → refNum l = (n, true) := fun n h => by
    obtain ⟨e, h1, h2⟩ := numB_true h
    rw [nameB_yes h1 h2] at e
    subst e
    obtain ⟨c, r, p1, p2, p3, p4⟩ := dec_head n.toNat
    have p5 := ref_dec n.toNat (by omega)
    rw [p1] at p5 ⊢
    rw [refNum, if_pos ⟨rfl, rfl, fun e => p4 (by omega) (by rw [e]; rfl)⟩, p5]
    simp only
    rw [if_pos (by omega), Int.toNat_of_nonneg (by omega)]
  have sh : refNum l = (0, false) ∨ ∃ n, refNum l = (n, true) := by
    unfold refNum
    split
    · split
      · split
        · split
          · exact Or.inr ⟨_, rfl⟩
          · exact Or.inl rfl
        · exact Or.inl rfl
      · exact Or.inl rfl
    · exact Or.inl rfl
  rcases sh with h | ⟨n, h⟩
  · rcases numB_cases l with q | ⟨v, q, _⟩
    · rw [h, q]
    · rw [key2 v q] at h; cases h
  · rw [h, key n h]
end Go.Proofs.YtcimkoehcdfjdaaDoor.WireM
