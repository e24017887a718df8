/-
  Plain mathematics of the wire's numbers, texts and rows: what is put, what is got, and that what is put is got. No program is in sight.
-/
namespace Go.Proofs.Ytamdejidkgnaeaa.WireM

def maxNum : Nat := 1099511627776

/-- the bytes of a number -/
def enc (n : Nat) : List UInt8 := if n < 128 then [UInt8.ofNat n] else UInt8.ofNat (n % 128 + 128) :: enc (n / 128)
termination_by n
decreasing_by omega

theorem enc_small {n : Nat} (h : n < 128) : enc n = [UInt8.ofNat n] := by rw [enc, if_pos h]
theorem enc_big {n : Nat} (h : 128 ≤ n) : enc n = UInt8.ofNat (n % 128 + 128) :: enc (n / 128) := by rw [enc, if_neg (by omega)]
theorem enc_ne (n : Nat) : enc n ≠ [] := by
  by_cases h : n < 128
  · rw [enc_small h]; simp
  · rw [enc_big (by omega)]; simp

/-- a number's bytes are gone through; s: by how many bits the next ones are shifted -/
def rd : Nat → List UInt8 → Option (Nat × List UInt8)
  | _, [] => none
  | s, b :: l => if 35 < s ∨ (0 < s ∧ b.toNat = 0) then none else if b.toNat < 128 then some (b.toNat * 2 ^ s, l) else (rd (s + 7) l).map fun p => (b.toNat % 128 * 2 ^ s + p.1, p.2)

/-- what is left of a reader's bytes; none: it has failed -/
abbrev St := Option (List UInt8)

def num (most : Int) : St → Nat × St
  | none => (0, none)
  | some l => match rd 0 l with
    | none => (0, none)
    | some (n, r) => if (n : Int) ≤ most ∧ n ≤ maxNum then (n, some r) else (0, none)

def fixed : St → Nat × St
  | some (a :: b :: c :: d :: l) => (a.toNat + 256 * b.toNat + 65536 * c.toNat + 16777216 * d.toNat, some l)
  | _ => (0, none)

def text (most : Int) (st : St) : List UInt8 × St :=
  match num most st with
  | (_, none) => ([], none)
  | (n, some l) => if n ≤ l.length then (l.take n, some (l.drop n)) else ([], none)

/-- so many numbers more, behind the last one -/
def riseGo (most : Int) : Nat → Nat → St → List Nat × St
  | 0, _, st => ([], st)
  | k + 1, last, st =>
    match num maxNum st with
    | (_, none) => ([], none)
    | (m, some l) =>
      if ((last + m : Nat) : Int) ≤ most ∧ last + m ≤ maxNum then
        match riseGo most k (last + m + 1) (some l) with
        | (_, none) => ([], none)
        | (r, some l') => ((last + m) :: r, some l')
      else ([], none)

/-- 'last' is one above the number that was last, 0 at the start -/
def rising (many most : Int) (st : St) : List Nat × St :=
  match num many st with
  | (_, none) => ([], none)
  | (n, some l) => riseGo most n 0 (some l)

def left : St → Nat
  | none => 0
  | some l => l.length

/-- a writer's bytes; none: it has failed -/
def putNum (n : Int) : St → St
  | none => none
  | some l => if 0 ≤ n ∧ n ≤ (maxNum : Int) then some (l ++ enc n.toNat) else none
def putFixed (n : Nat) : St → St
  | none => none
  | some l => some (l ++ [UInt8.ofNat n, UInt8.ofNat (n / 256), UInt8.ofNat (n / 65536), UInt8.ofNat (n / 16777216)])
def putBytes (b : List UInt8) : St → St
  | none => none
  | some l => some (l ++ b)
def putText (b : List UInt8) (st : St) : St := putBytes b (putNum b.length st)
/-- a row behind 'last', which is above the number that was last by one -/
def putRise : Int → List Int → St → St
  | _, [], st => st
  | last, n :: r, st => if n < last ∨ n < 0 ∨ (maxNum : Int) < n then none else putRise (n + 1) r (putNum (n - last) st)
def putRising (r : List Int) (st : St) : St := putRise 0 r (putNum r.length st)
def told : St → List UInt8
  | none => []
  | some l => l

theorem putRise_none : ∀ (last : Int) (r : List Int), putRise last r none = none
  | _, [] => rfl
  | last, n :: r => by
    rw [putRise]
    split
    · rfl
    · exact putRise_none _ _

/-! ### what is put is got -/

theorem rd_enc (n : Nat) : ∀ (s : Nat) (l : List UInt8), (0 < s → 0 < n) → s % 7 = 0 → n < 2 ^ (42 - s) → s ≤ 35 → rd s (enc n ++ l) = some (n * 2 ^ s, l) := by
  induction n using Nat.strongRecOn with
  | ind n ih =>
    intro s l h0 h7 hn hs
    by_cases h : n < 128
    · rw [enc_small h]
      have e : (UInt8.ofNat n).toNat = n := by rw [UInt8.toNat_ofNat']; exact Nat.mod_eq_of_lt (by omega)
      simp only [List.cons_append, List.nil_append, rd, e]
      rw [if_neg (by omega), if_pos h]
    · rw [enc_big (by omega)]
      have e : (UInt8.ofNat (n % 128 + 128)).toNat = n % 128 + 128 := by rw [UInt8.toNat_ofNat']; exact Nat.mod_eq_of_lt (by omega)
      have hs' : s ≤ 28 := by
        rcases Nat.lt_or_ge s 29 with h1 | h1
        · omega
        · have : s = 35 := by omega
          subst this
          simp at hn
          omega
      have hd : n / 128 < 2 ^ (42 - (s + 7)) := by
        rw [Nat.div_lt_iff_lt_mul (by omega)]
        have : 2 ^ (42 - (s + 7)) * 128 = 2 ^ (42 - s) := by
          rw [show (128 : Nat) = 2 ^ 7 from rfl, ← Nat.pow_add]
          congr 1
          omega
        omega
      simp only [List.cons_append, rd, e]
      rw [if_neg (by omega), if_neg (by omega), ih (n / 128) (by omega) (s + 7) l (by omega) (by omega) hd (by omega)]
      simp only [Option.map_some]
      congr 2
      rw [Nat.add_mod_right, Nat.mod_mod, Nat.pow_add]
      have := Nat.mod_add_div n 128
      calc n % 128 * 2 ^ s + n / 128 * (2 ^ s * 2 ^ 7) = (n % 128 + 128 * (n / 128)) * 2 ^ s := by
            rw [Nat.add_mul]
            congr 1
            rw [show (2 : Nat) ^ 7 = 128 from rfl, Nat.mul_comm (2 ^ s) 128, ← Nat.mul_assoc, Nat.mul_comm (n / 128) 128]
        _ = n * 2 ^ s := by rw [this]

theorem num_enc (n : Nat) (most : Int) (l : List UInt8) (hn : n ≤ maxNum) (hm : (n : Int) ≤ most) : num most (some (enc n ++ l)) = (n, some l) := by
  have h := rd_enc n 0 l (by omega) rfl (by have : maxNum < 2 ^ 42 := by decide
                                            simp only [Nat.sub_zero]; omega) (by omega)
  simp only [num, h, Nat.pow_zero, Nat.mul_one]
  rw [if_pos ⟨hm, hn⟩]

theorem fixed_put (n : Nat) (hn : n < 4294967296) (l : List UInt8) : fixed (some ([UInt8.ofNat n, UInt8.ofNat (n / 256), UInt8.ofNat (n / 65536), UInt8.ofNat (n / 16777216)] ++ l)) = (n, some l) := by
  simp only [List.cons_append, List.nil_append, fixed, UInt8.toNat_ofNat']
  congr 1
  omega

theorem text_put (b : List UInt8) (most : Int) (l : List UInt8) (hb : b.length ≤ maxNum) (hm : (b.length : Int) ≤ most) : text most (some (enc b.length ++ b ++ l)) = (b, some l) := by
  simp only [text, List.append_assoc, num_enc b.length most (b ++ l) hb hm]
  rw [if_pos (by simp)]
  simp

/-- the bytes of a row behind 'last' -/
def rb : Nat → List Nat → List UInt8
  | _, [] => []
  | last, n :: r => enc (n - last) ++ rb (n + 1) r
/-- it rises from 'last' on, its numbers are such -/
def Rises : Nat → List Nat → Prop
  | _, [] => True
  | last, n :: r => last ≤ n ∧ n ≤ maxNum ∧ Rises (n + 1) r

theorem putRise_rb : ∀ (r : List Nat) (last : Nat) (acc : List UInt8), Rises last r → putRise (last : Int) (r.map fun n : Nat => (n : Int)) (some acc) = some (acc ++ rb last r)
  | [], last, acc, _ => by simp [putRise, rb]
  | n :: r, last, acc, h => by
    obtain ⟨h1, h2, h3⟩ := h
    have e1 : ((n : Int) - (last : Int)).toNat = n - last := by omega
    have e2 : putNum ((n : Int) - (last : Int)) (some acc) = some (acc ++ enc (n - last)) := by
      rw [putNum, if_pos (by omega), e1]
    rw [List.map_cons, putRise, if_neg (by omega), e2, rb, ← List.append_assoc, ← putRise_rb r (n + 1) _ h3]
    rfl
theorem putRising_rb (r : List Nat) (acc : List UInt8) (h : Rises 0 r) (hl : r.length ≤ maxNum) : putRising (r.map fun n : Nat => (n : Int)) (some acc) = some (acc ++ (enc r.length ++ rb 0 r)) := by
  have e2 : putNum (((r.map fun n : Nat => (n : Int)).length : Nat) : Int) (some acc) = some (acc ++ enc r.length) := by
    rw [List.length_map, putNum, if_pos (by omega)]
    simp
  rw [putRising, e2, ← List.append_assoc]
  exact putRise_rb r 0 _ h

theorem riseGo_rb (most : Int) : ∀ (r : List Nat) (last : Nat) (l : List UInt8), Rises last r → (∀ n ∈ r, (n : Int) ≤ most) → riseGo most r.length last (some (rb last r ++ l)) = (r, some l)
  | [], _, _, _, _ => rfl
  | n :: r, last, l, h, hm => by
    obtain ⟨h1, h2, h3⟩ := h
    have e : num maxNum (some (enc (n - last) ++ (rb (n + 1) r ++ l))) = (n - last, some (rb (n + 1) r ++ l)) := num_enc _ _ _ (by omega) (by omega)
    have e1 : last + (n - last) = n := by omega
    have hn := hm n (by simp)
    simp only [List.length_cons, riseGo, rb, List.append_assoc, e, e1]
    rw [if_pos ⟨hn, h2⟩, riseGo_rb most r (n + 1) l h3 (fun k hk => hm k (by simp [hk]))]
theorem rising_rb (r : List Nat) (many most : Int) (l : List UInt8) (h : Rises 0 r) (hl : r.length ≤ maxNum) (hk : (r.length : Int) ≤ many) (hm : ∀ n ∈ r, (n : Int) ≤ most) :
    rising many most (some (enc r.length ++ rb 0 r ++ l)) = (r, some l) := by
  simp only [rising, List.append_assoc, num_enc r.length many _ hl hk]
  exact riseGo_rb most r 0 l h hm

/-! ### there is one way to write -/

theorem enc_step (a k : Nat) (ha : a < 128) (hk : 0 < k) : enc (a + 128 * k) = UInt8.ofNat (a + 128) :: enc k := by
  have e1 : (a + 128 * k) % 128 = a := by omega
  have e2 : (a + 128 * k) / 128 = k := by omega
  rw [enc_big (by omega), e1, e2]

theorem rd_one : ∀ (l : List UInt8) (s m : Nat) (r : List UInt8), rd s l = some (m, r) → ∃ k, m = k * 2 ^ s ∧ l = enc k ++ r ∧ (0 < s → 0 < k)
  | [], _, _, _, h => by simp [rd] at h
  | b :: l, s, m, r, h => by
    rw [rd] at h
    by_cases h1 : 35 < s ∨ (0 < s ∧ b.toNat = 0)
    · rw [if_pos h1] at h; cases h
    · rw [if_neg h1] at h
      by_cases h2 : b.toNat < 128
      · rw [if_pos h2] at h
        cases h
        exact ⟨b.toNat, rfl, by rw [enc_small h2]; simp, by omega⟩
      · rw [if_neg h2] at h
        cases hq : rd (s + 7) l with
        | none => rw [hq] at h; cases h
        | some p =>
          obtain ⟨m', r'⟩ := p
          rw [hq] at h
          simp only [Option.map_some, Option.some.injEq, Prod.mk.injEq] at h
          obtain ⟨hm, rfl⟩ := h
          obtain ⟨k, hk, rfl, hk0⟩ := rd_one l (s + 7) m' r' hq
          have hk1 := hk0 (by omega)
          have hb := b.toNat_lt
          refine ⟨b.toNat % 128 + 128 * k, ?_, ?_, fun _ => Nat.lt_of_lt_of_le (Nat.mul_pos (by decide : 0 < 128) hk1) (Nat.le_add_left _ _)⟩
          · rw [← hm, hk, Nat.add_mul, Nat.pow_add, show (2 : Nat) ^ 7 = 128 from rfl, Nat.mul_comm (2 ^ s) 128, ← Nat.mul_assoc, Nat.mul_comm k 128]
          · rw [enc_step _ _ (Nat.mod_lt _ (by omega)) hk1]
            have e1 : b.toNat % 128 + 128 = b.toNat := by omega
            rw [e1]
            simp

theorem num_one {most : Int} {l : List UInt8} {n : Nat} {r : List UInt8} (h : num most (some l) = (n, some r)) : l = enc n ++ r ∧ n ≤ maxNum ∧ (n : Int) ≤ most := by
  simp only [num] at h
  cases hq : rd 0 l with
  | none => rw [hq] at h; simp at h
  | some p =>
    obtain ⟨m, r'⟩ := p
    rw [hq] at h
    simp only at h
    by_cases hm : (m : Int) ≤ most ∧ m ≤ maxNum
    · rw [if_pos hm] at h
      simp only [Prod.mk.injEq, Option.some.injEq] at h
      obtain ⟨rfl, rfl⟩ := h
      obtain ⟨k, hk, rfl, _⟩ := rd_one l 0 m r' hq
      obtain rfl : m = k := by simpa using hk
      exact ⟨rfl, hm.2, hm.1⟩
    · rw [if_neg hm] at h; simp at h

theorem text_one {most : Int} {l b r : List UInt8} (h : text most (some l) = (b, some r)) : l = enc b.length ++ b ++ r ∧ b.length ≤ maxNum := by
  simp only [text] at h
  rcases hq : num most (some l) with ⟨n, st⟩
  rw [hq] at h
  cases st with
  | none => simp at h
  | some l' =>
    simp only at h
    by_cases hl : n ≤ l'.length
    · rw [if_pos hl] at h
      simp only [Prod.mk.injEq, Option.some.injEq] at h
      obtain ⟨rfl, rfl⟩ := h
      obtain ⟨rfl, h2, _⟩ := num_one hq
      have e : (l'.take n).length = n := by rw [List.length_take]; omega
      rw [e]
      exact ⟨by simp, h2⟩
    · rw [if_neg hl] at h; simp at h
end Go.Proofs.Ytamdejidkgnaeaa.WireM
