/-
  The plain law of GramPlaces: grams rise, their places too; each place is some gram's; a part's grams are grams of the whole.
-/
import Derived.Test.YtamdejidkgnaeaaGramOut
namespace Go.Proofs.Ytamdejidkgnaeaa
open GramM
set_option linter.unusedVariables false
theorem mem_sortG {gs : List Gr} {g : Gr} : g ∈ sortG (firsts [] gs) ↔ g ∈ gs := by
  rw [(sortG_perm _).mem_iff, mem_firsts]
  simp
theorem sortG_rises {L : List Gr} (h : L.Nodup) : (sortG L).Pairwise fun x y => numG x < numG y := by
  have h1 : (sortG L).Pairwise fun x y => (!decide (numG y < numG x)) = true := by
    unfold sortG
    refine List.pairwise_mergeSort (fun a b c h1 h2 => ?_) (fun a b => ?_) L
    · simp at h1 h2 ⊢
      omega
    · simp
      omega
  have h2 : (sortG L).Nodup := (sortG_perm L).nodup_iff.2 h
  refine List.Pairwise.imp₂ (fun x y h3 h4 => ?_) h1 h2
  have h5 : numG x ≠ numG y := fun e => h4 (numG_inj e)
  simp at h3
  omega
theorem sortG_at {gs : List Gr} {i j : Nat} {x y : Gr} (hij : i < j) (hx : (sortG (firsts [] gs))[i]? = some x) (hy : (sortG (firsts [] gs))[j]? = some y) : numG x < numG y := by
  have h := List.pairwise_iff_getElem.1 (sortG_rises (firsts_nodup (acc := []) (l := gs) List.nodup_nil))
  obtain ⟨h1, rfl⟩ := List.getElem?_eq_some_iff.1 hx
  obtain ⟨h2, rfl⟩ := List.getElem?_eq_some_iff.1 hy
  exact h i j h1 h2 hij
/-- a gram's text is less than one that is greater -/
theorem less_text {x y : Gr} (h : numG x < numG y) : Op.bytesLess (grS x).toList (grS y).toList = true := by
  obtain ⟨a, b, c⟩ := x
  obtain ⟨p, q, r⟩ := y
  have h1 := a.toNat_lt
  have h2 := b.toNat_lt
  have h3 := c.toNat_lt
  have h4 := p.toNat_lt
  have h5 := q.toNat_lt
  have h6 := r.toNat_lt
  unfold numG at h
  simp only at h
  rw [Lib.toList_data, Lib.toList_data]
  have h' : a < p ∨ (a = p ∧ (b < q ∨ (b = q ∧ c < r))) := by
    have hlt : ∀ u v : UInt8, u < v ↔ u.toNat < v.toNat := fun u v => UInt8.lt_iff_toNat_lt
    have heq : ∀ u v : UInt8, u = v ↔ u.toNat = v.toNat := fun u v => UInt8.toNat_inj.symm
    simp only [hlt, heq]
    omega
  clear h
  rcases h' with hh | ⟨rfl, hh | ⟨rfl, hh⟩⟩
  · simp [grS, Op.bytesLess, hh]
  · simp [grS, Op.bytesLess, hh]
  · simp only [grS, Op.bytesLess]
    simp [hh]
theorem posOf_some {gs : List Gr} {g : Gr} (h : g ∈ gs) : posOf gs g gs.length ≠ [] := by
  obtain ⟨i, hi⟩ := List.getElem?_of_mem h
  intro e
  have : i ∈ posOf gs g gs.length := mem_posOf.2 ⟨(List.getElem?_eq_some_iff.1 hi).1, hi⟩
  rw [e] at this
  simp at this
theorem posOf_at {gs : List Gr} {g : Gr} {i j x y : Nat} (hij : i < j) (hx : (posOf gs g gs.length)[i]? = some x) (hy : (posOf gs g gs.length)[j]? = some y) : x < y := by
  have h := List.pairwise_iff_getElem.1 (posOf_rise gs g gs.length)
  obtain ⟨h1, rfl⟩ := List.getElem?_eq_some_iff.1 hx
  obtain ⟨h2, rfl⟩ := List.getElem?_eq_some_iff.1 hy
  exact h i j h1 h2 hij
/-- the grams of a part -/
theorem grams_part {b : List UInt8} {i m : Nat} {g : Gr} (h : g ∈ grams ((b.drop i).take m)) : g ∈ grams b := by
  obtain ⟨k, hk⟩ := List.getElem?_of_mem h
  obtain ⟨h1, h2, h3⟩ := grams_of hk
  have hget : ∀ j x, ((b.drop i).take m)[j]? = some x → b[i + j]? = some x := fun j x hx => by
    rw [List.getElem?_take] at hx
    split at hx
    · rw [List.getElem?_drop] at hx
      exact hx
    · cases hx
  exact List.mem_of_getElem? (grams_at b (i + k) g.1 g.2.1 g.2.2 (hget _ _ h1) (hget _ _ h2) (hget _ _ h3))
/-- the places that are marked behind i grams and k places of the next -/
def marked (gs Q : List Gr) (i k j : Nat) : Bool := (Q.take i).any (fun g => gs[j]? == some g) || (match Q[i]? with
  | some g => ((posOf gs g gs.length).take k).contains j
  | none => false)
theorem marked_start (gs Q : List Gr) (j : Nat) : marked gs Q 0 0 j = false := by
  unfold marked
  cases Q[0]? <;> simp
theorem marked_not {gs : List Gr} {i k p : Nat} {g : Gr} (hg : (sortG (firsts [] gs))[i]? = some g) (hp : (posOf gs g gs.length)[k]? = some p) : marked gs (sortG (firsts [] gs)) i k p = false := by
  have hpg := (mem_posOf.1 (List.mem_of_getElem? hp)).2
  unfold marked
  rw [hg, Bool.or_eq_false_iff]
  constructor
  · rw [List.any_eq_false]
    intro h hh
    obtain ⟨j, hj⟩ := List.getElem?_of_mem hh
    rw [List.getElem?_take] at hj
    split at hj
    · rename_i hlt
      have h1 := sortG_at hlt hj hg
      rw [hpg]
      simp
      rintro rfl
      omega
    · cases hj
  · have hn : p ∉ (posOf gs g gs.length).take k := fun hm => by
      obtain ⟨j, hj⟩ := List.getElem?_of_mem hm
      rw [List.getElem?_take] at hj
      split at hj
      · rename_i hlt
        have := posOf_at hlt hj hp
        omega
      · cases hj
    simpa using hn
theorem marked_next {gs Q : List Gr} {i k p : Nat} {g : Gr} (hg : Q[i]? = some g) (hp : (posOf gs g gs.length)[k]? = some p) (j : Nat) : marked gs Q i (k + 1) j = (if j = p then true else marked gs Q i k j) := by
  unfold marked
  rw [hg]
  simp only
  rw [List.take_add_one, hp]
  by_cases e : j = p
  · rw [if_pos e, e]
    simp
  · rw [if_neg e]
    simp [e]
theorem marked_row {gs Q : List Gr} {i : Nat} {g : Gr} (hg : Q[i]? = some g) (j : Nat) (hj : j < gs.length) : marked gs Q i (posOf gs g gs.length).length j = marked gs Q (i + 1) 0 j := by
  unfold marked
  rw [hg]
  simp only
  rw [List.take_length, List.take_add_one, hg]
  simp only [Option.toList_some, List.any_append, List.any_cons, List.any_nil, Bool.or_false, List.take_zero, List.contains_nil]
  have h1 : (posOf gs g gs.length).contains j = (gs[j]? == some g) := by
    rw [Bool.eq_iff_iff]
    simp only [List.contains_iff_mem, mem_posOf, beq_iff_eq]
    exact ⟨fun h => h.2, fun h => ⟨hj, h⟩⟩
  rw [h1]
  cases Q[i + 1]? <;> simp
theorem marked_end {gs : List Gr} (j : Nat) (hj : j < gs.length) : marked gs (sortG (firsts [] gs)) (sortG (firsts [] gs)).length 0 j = true := by
  unfold marked
  rw [List.take_length, Bool.or_eq_true]
  left
  rw [List.any_eq_true]
  obtain ⟨g, hg⟩ : ∃ g, gs[j]? = some g := ⟨_, List.getElem?_eq_getElem hj⟩
  exact ⟨g, mem_sortG.2 (List.mem_of_getElem? hg), by rw [hg]; simp⟩
end Go.Proofs.Ytamdejidkgnaeaa
