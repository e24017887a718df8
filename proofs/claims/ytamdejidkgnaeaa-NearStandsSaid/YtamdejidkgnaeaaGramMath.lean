/-
  Grams of bytes: plain lists. No program is in sight.
-/
namespace Go.Proofs.Ytamdejidkgnaeaa
namespace GramM
abbrev Gr := UInt8 × UInt8 × UInt8
/-- the grams of bytes, one behind the other -/
def grams : List UInt8 → List Gr
  | x :: y :: z :: t => (x, y, z) :: grams (y :: z :: t)
  | _ => []
theorem grams_len : ∀ b : List UInt8, (grams b).length = b.length - 2
  | [] => rfl
  | [_] => rfl
  | [_, _] => rfl
  | x :: y :: z :: t => by
    rw [grams, List.length_cons, grams_len (y :: z :: t)]
    simp only [List.length_cons]
    omega
theorem grams_at : ∀ (b : List UInt8) (i : Nat) (x y z : UInt8), b[i]? = some x → b[i + 1]? = some y → b[i + 2]? = some z → (grams b)[i]? = some (x, y, z)
  | [], i, _, _, _, h, _, _ => by simp at h
  | [_], i, _, _, _, _, h, _ => by simp at h
  | [_, _], i, _, _, _, _, _, h => by simp at h
  | a :: b :: c :: t, 0, x, y, z, h1, h2, h3 => by
    simp only [List.getElem?_cons_zero, List.getElem?_cons_succ, Option.some.injEq, Nat.zero_add] at h1 h2 h3
    rw [grams, h1, h2, h3]
    rfl
  | a :: b :: c :: t, i + 1, x, y, z, h1, h2, h3 => by
    rw [grams, List.getElem?_cons_succ]
    exact grams_at (b :: c :: t) i x y z (by simpa using h1) (by simpa using h2) (by simpa using h3)
theorem grams_of {b : List UInt8} {i : Nat} {g : Gr} (h : (grams b)[i]? = some g) : b[i]? = some g.1 ∧ b[i + 1]? = some g.2.1 ∧ b[i + 2]? = some g.2.2 := by
  have hl := (List.getElem?_eq_some_iff.1 h).1
  rw [grams_len] at hl
  obtain ⟨x, hx⟩ : ∃ x, b[i]? = some x := ⟨_, List.getElem?_eq_getElem (by omega)⟩
  obtain ⟨y, hy⟩ : ∃ x, b[i + 1]? = some x := ⟨_, List.getElem?_eq_getElem (by omega)⟩
  obtain ⟨z, hz⟩ : ∃ x, b[i + 2]? = some x := ⟨_, List.getElem?_eq_getElem (by omega)⟩
  have h2 := grams_at b i x y z hx hy hz
  rw [h] at h2
  injection h2 with h2
  subst h2
  exact ⟨hx, hy, hz⟩
/-- the places of a gram among the first k -/
def posOf (gs : List Gr) (g : Gr) (k : Nat) : List Nat := (List.range k).filter fun i => gs[i]? == some g
theorem posOf_succ {gs : List Gr} {k : Nat} {g h : Gr} (hk : gs[k]? = some g) : posOf gs h (k + 1) = if h = g then posOf gs h k ++ [k] else posOf gs h k := by
  unfold posOf
  rw [List.range_succ, List.filter_append]
  by_cases e : h = g
  · rw [if_pos e, e]
    simp [hk]
  · rw [if_neg e]
    have : (gs[k]? == some h) = false := by
      rw [hk, beq_eq_false_iff_ne]
      intro q
      injection q with q
      exact e q.symm
    simp [this]
theorem mem_posOf {gs : List Gr} {g : Gr} {k i : Nat} : i ∈ posOf gs g k ↔ i < k ∧ gs[i]? = some g := by
  unfold posOf
  simp
theorem posOf_len (gs : List Gr) (g : Gr) (k : Nat) : (posOf gs g k).length ≤ k := by
  unfold posOf
  exact Nat.le_trans (List.length_filter_le _ _) (by simp)
theorem posOf_rise (gs : List Gr) (g : Gr) (k : Nat) : (posOf gs g k).Pairwise (· < ·) := List.Pairwise.filter _ (List.pairwise_lt_range)
/-- the grams, each once, as they are first met -/
def firsts : List Gr → List Gr → List Gr
  | acc, [] => acc
  | acc, g :: l => firsts (if g ∈ acc then acc else acc ++ [g]) l
theorem firsts_snoc : ∀ (acc l : List Gr) (g : Gr), firsts acc (l ++ [g]) = if g ∈ firsts acc l then firsts acc l else firsts acc l ++ [g]
  | acc, [], g => rfl
  | acc, h :: l, g => by
    show firsts _ (l ++ [g]) = _
    exact firsts_snoc _ l g
theorem mem_firsts : ∀ {acc l : List Gr} {g : Gr}, g ∈ firsts acc l ↔ g ∈ acc ∨ g ∈ l
  | acc, [], g => by simp [firsts]
  | acc, h :: l, g => by
    rw [firsts, mem_firsts, List.mem_cons]
    split
    · rename_i hm
      constructor
      · rintro (h1 | h1)
        · exact Or.inl h1
        · exact Or.inr (Or.inr h1)
      · rintro (h1 | h1 | h1)
        · exact Or.inl h1
        · exact Or.inl (h1 ▸ hm)
        · exact Or.inr h1
    · rw [List.mem_append, List.mem_singleton]
      constructor
      · rintro ((h1 | h1) | h1)
        · exact Or.inl h1
        · exact Or.inr (Or.inl h1)
        · exact Or.inr (Or.inr h1)
      · rintro (h1 | h1 | h1)
        · exact Or.inl (Or.inl h1)
        · exact Or.inl (Or.inr h1)
        · exact Or.inr h1
theorem firsts_nodup : ∀ {acc l : List Gr}, acc.Nodup → (firsts acc l).Nodup
  | acc, [], h => h
  | acc, g :: l, h => by
    rw [firsts]
    refine firsts_nodup ?_
    split
    · exact h
    · rename_i hn
      rw [List.nodup_append]
      exact ⟨h, by simp, fun x hx y hy e => hn (by simp at hy; rw [← hy, ← e]; exact hx)⟩
theorem firsts_len : ∀ (acc l : List Gr), (firsts acc l).length ≤ acc.length + l.length
  | acc, [] => Nat.le_refl _
  | acc, g :: l => by
    rw [firsts]
    refine Nat.le_trans (firsts_len _ l) ?_
    split <;> simp <;> omega
end GramM
end Go.Proofs.Ytamdejidkgnaeaa
