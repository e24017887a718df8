/-
  Plain mathematics of a rising row that is got: one number more, and that each number takes a byte. No program is in sight.
-/
import Derived.Test.YtcimkoehcdfjdaaGreatDoorWireMath
namespace Go.Proofs.YtcimkoehcdfjdaaGreatDoor.WireM

def riseT (most : Int) (k last : Nat) (st : St) (rs : List Nat) : List Nat × St :=
 match riseGo most k last st with
 | (_, none) => ([], none)
 | (r, some l) => (rs ++ r, some l)
theorem riseGo_none (most : Int) : ∀ (k last : Nat) (st : St) (r : List Nat), riseGo most k last st = (r, none) → r = []
 | 0, _, _, _, h => by
  rw [riseGo] at h
  injection h with h _
  exact h.symm
 | k + 1, last, st, r, h => by
  rw [riseGo] at h
  split at h
  ·injection h with h _
   exact h.symm
  ·split at h
   ·split at h
    ·injection h with h _
     exact h.symm
    ·injection h with _ h
     cases h
   ·injection h with h _
    exact h.symm
theorem rising_T {many most : Int} {st : St} {n : Nat} {l : List UInt8} (h : num many st = (n, some l)) : rising many most st = riseT most n 0 (some l) [] := by
 unfold rising riseT
 rw [h]
 simp only []
 have h2 := riseGo_none most n 0 (some l)
 generalize riseGo most n 0 (some l) = q at h2
 match q, h2 with
 | (r, some l'), _ => simp
 | (r, none), h2 => rw [h2 r rfl]
theorem rising_none {many most : Int} {st : St} {n : Nat} (h : num many st = (n, none)) : rising many most st = ([], none) := by
 unfold rising
 rw [h]
theorem riseT_zero (most : Int) (last : Nat) (l : List UInt8) (rs : List Nat) : riseT most 0 last (some l) rs = (rs, some l) := by
 simp [riseT, riseGo]
theorem riseT_fail {most : Int} {k last m : Nat} {l : List UInt8} {rs : List Nat} (h : num maxNum (some l) = (m, none)) : riseT most (k + 1) last (some l) rs = ([], none) := by
 unfold riseT riseGo
 rw [h]
theorem riseT_off {most : Int} {k last m : Nat} {l l1 : List UInt8} {rs : List Nat} (h : num maxNum (some l) = (m, some l1)) (hc : ¬ (((last + m : Nat) : Int) ≤ most ∧ last + m ≤ maxNum)) : riseT most (k + 1) last (some l) rs = ([], none) := by
 unfold riseT riseGo
 rw [h]
 simp only []
 rw [if_neg hc]
theorem riseT_step {most : Int} {k last m : Nat} {l l1 : List UInt8} {rs : List Nat} (h : num maxNum (some l) = (m, some l1)) (hc : ((last + m : Nat) : Int) ≤ most ∧ last + m ≤ maxNum) : riseT most (k + 1) last (some l) rs = riseT most k (last + m + 1) (some l1) (rs ++ [last + m]) := by
 unfold riseT
 rw [riseGo, h]
 simp only []
 rw [if_pos hc]
 generalize riseGo most k (last + m + 1) (some l1) = q
 match q with
 | (r, some l') => simp
 | (r, none) => simp
theorem num_fail {most : Int} {st : St} {m : Nat} (h : num most st = (m, none)) : m = 0 := by
 cases st with
 | none =>
  injection h with h _
  exact h.symm
 | some l =>
  unfold num at h
  simp only [] at h
  split at h
  ·injection h with h _
   exact h.symm
  ·split at h
   ·injection h with _ h
    cases h
   ·injection h with h _
    exact h.symm
theorem num_most (most : Int) (st : St) : (num most st).1 ≤ maxNum := by
 cases st with
 | none => exact Nat.zero_le _
 | some l =>
  unfold num
  simp only []
  split
  ·exact Nat.zero_le _
  ·split
   ·rename_i h
    exact h.2
   ·exact Nat.zero_le _
theorem num_less {most : Int} {l l1 : List UInt8} {m : Nat} (h : num most (some l) = (m, some l1)) : l1.length < l.length := by
 obtain ⟨e, _⟩ := num_one h
 have := List.length_pos_iff.2 (enc_ne m)
 rw [e, List.length_append]
 omega
end Go.Proofs.YtcimkoehcdfjdaaGreatDoor.WireM
