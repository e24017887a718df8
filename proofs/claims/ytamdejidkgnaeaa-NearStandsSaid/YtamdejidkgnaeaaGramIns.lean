/-
  The document's Places in plain Lean: grams put one by one where they belong are all grams, rising.
-/
import Derived.Test.YtamdejidkgnaeaaGramLaw
namespace Go.Proofs.Ytamdejidkgnaeaa
open GramM
set_option linter.unusedVariables false
/-- a gram put where it belongs -/
def insG : List Gr → Gr → List Gr
  | [], x => [x]
  | y :: O, x => if numG y < numG x then y :: insG O x else if x = y then y :: O else x :: y :: O
theorem mem_insG : ∀ {O : List Gr} {x g : Gr}, g ∈ insG O x ↔ g = x ∨ g ∈ O
  | [], x, g => by simp [insG]
  | y :: O, x, g => by
    unfold insG
    split
    · rw [List.mem_cons, mem_insG, List.mem_cons]
      constructor
      · rintro (h | h | h)
        · exact Or.inr (Or.inl h)
        · exact Or.inl h
        · exact Or.inr (Or.inr h)
      · rintro (h | h | h)
        · exact Or.inr (Or.inl h)
        · exact Or.inl h
        · exact Or.inr (Or.inr h)
    · split
      · next h =>
        subst h
        simp
      · simp
theorem insG_up : ∀ {O : List Gr} {x : Gr}, (O.Pairwise fun x y => numG x < numG y) → (insG O x).Pairwise fun x y => numG x < numG y
  | [], x, _ => by simp [insG]
  | y :: O, x, h => by
    obtain ⟨h1, h2⟩ := List.pairwise_cons.1 h
    unfold insG
    split
    · next hyx =>
      refine List.pairwise_cons.2 ⟨fun z hz => ?_, insG_up h2⟩
      rcases mem_insG.1 hz with rfl | hz
      · exact hyx
      · exact h1 z hz
    · next hyx =>
      split
      · exact h
      · next hne =>
        have hlt : numG x < numG y := by
          have : numG x ≠ numG y := fun e => hne (numG_inj e)
          omega
        refine List.pairwise_cons.2 ⟨fun z hz => ?_, h⟩
        rcases List.mem_cons.1 hz with rfl | hz
        · exact hlt
        · exact Nat.lt_trans hlt (h1 z hz)
/-- two rising rows of the same grams are one -/
theorem up_same : ∀ {L M : List Gr}, (L.Pairwise fun x y => numG x < numG y) → (M.Pairwise fun x y => numG x < numG y) → (∀ g, g ∈ L ↔ g ∈ M) → L = M
  | [], [], _, _, _ => rfl
  | [], y :: M, _, _, h => by simpa using (h y).2 (by simp)
  | x :: L, [], _, _, h => by simpa using (h x).1 (by simp)
  | x :: L, y :: M, hL, hM, h => by
    obtain ⟨h1, h2⟩ := List.pairwise_cons.1 hL
    obtain ⟨h3, h4⟩ := List.pairwise_cons.1 hM
    have hxy : x = y := by
      rcases List.mem_cons.1 ((h x).1 (by simp)) with e | e
      · exact e
      · rcases List.mem_cons.1 ((h y).2 (by simp)) with e2 | e2
        · exact e2.symm
        · have := h1 y e2
          have := h3 x e
          omega
    subst hxy
    rw [up_same h2 h4 fun g => ?_]
    have hg := h g
    constructor
    · intro hm
      rcases List.mem_cons.1 (hg.1 (List.mem_cons_of_mem _ hm)) with e | e
      · subst e
        exact absurd (h1 _ hm) (Nat.lt_irrefl _)
      · exact e
    · intro hm
      rcases List.mem_cons.1 (hg.2 (List.mem_cons_of_mem _ hm)) with e | e
      · subst e
        exact absurd (h3 _ hm) (Nat.lt_irrefl _)
      · exact e
/-- all grams put where they belong -/
def insAllG (gs : List Gr) : List Gr := gs.foldl insG []
theorem insAllG_snoc (gs : List Gr) (g : Gr) : insAllG (gs ++ [g]) = insG (insAllG gs) g := by simp [insAllG]
theorem fold_up : ∀ (gs O : List Gr), (O.Pairwise fun x y => numG x < numG y) → (gs.foldl insG O).Pairwise fun x y => numG x < numG y
  | [], O, h => h
  | g :: gs, O, h => fold_up gs _ (insG_up h)
theorem fold_mem : ∀ (gs O : List Gr) (g : Gr), g ∈ gs.foldl insG O ↔ g ∈ gs ∨ g ∈ O
  | [], O, g => by simp
  | x :: gs, O, g => by
    show g ∈ gs.foldl insG (insG O x) ↔ _
    rw [fold_mem gs, mem_insG, List.mem_cons]
    constructor
    · rintro (h | h | h)
      · exact Or.inl (Or.inr h)
      · exact Or.inl (Or.inl h)
      · exact Or.inr h
    · rintro ((h | h) | h)
      · exact Or.inr (Or.inl h)
      · exact Or.inl h
      · exact Or.inr (Or.inr h)
theorem insAllG_up (gs : List Gr) : (insAllG gs).Pairwise fun x y => numG x < numG y := fold_up gs [] List.Pairwise.nil
theorem mem_insAllG {gs : List Gr} {g : Gr} : g ∈ insAllG gs ↔ g ∈ gs := by
  rw [insAllG, fold_mem]
  simp
theorem insAllG_eq (gs : List Gr) : insAllG gs = sortG (firsts [] gs) :=
  up_same (insAllG_up gs) (sortG_rises (firsts_nodup (acc := []) (l := gs) List.nodup_nil)) fun g => by rw [mem_insAllG, mem_sortG]
theorem insG_len : ∀ (O : List Gr) (x : Gr), (insG O x).length ≤ O.length + 1
  | [], x => by simp [insG]
  | y :: O, x => by
    unfold insG
    split
    · have := insG_len O x
      simp only [List.length_cons]
      omega
    · split <;> simp
theorem fold_len : ∀ (gs O : List Gr), (gs.foldl insG O).length ≤ O.length + gs.length
  | [], O => by simp
  | g :: gs, O => by
    have h1 := fold_len gs (insG O g)
    have h2 := insG_len O g
    show (gs.foldl insG (insG O g)).length ≤ _
    rw [List.length_cons]
    omega
theorem insAllG_len (gs : List Gr) : (insAllG gs).length ≤ gs.length := by
  have := fold_len gs []
  simpa [insAllG] using this
/-- where a gram is put -/
theorem insG_at : ∀ {O : List Gr} {k : Nat} {x : Gr}, k ≤ O.length → (∀ j y, j < k → O[j]? = some y → numG y < numG x) → (∀ y, O[k]? = some y → numG x < numG y) → insG O x = O.take k ++ x :: O.drop k
  | [], k, x, hk, _, _ => by
    obtain rfl : k = 0 := by simpa using hk
    rfl
  | y :: O, 0, x, _, _, h2 => by
    have := h2 y rfl
    unfold insG
    rw [if_neg (by omega), if_neg (fun e => by rw [e] at this; omega)]
    rfl
  | y :: O, k + 1, x, hk, h1, h2 => by
    have := h1 0 y (by omega) rfl
    unfold insG
    rw [if_pos this, insG_at (k := k) (by simpa using hk) (fun j z hj hz => h1 (j + 1) z (by omega) (by simpa using hz)) (fun z hz => h2 z (by simpa using hz))]
    rfl
theorem insG_there : ∀ {O : List Gr} {k : Nat} {x : Gr}, (∀ j y, j < k → O[j]? = some y → numG y < numG x) → O[k]? = some x → insG O x = O
  | [], k, x, _, h => by simp at h
  | y :: O, 0, x, _, h => by
    obtain rfl : y = x := by simpa using h
    unfold insG
    rw [if_neg (by omega), if_pos rfl]
  | y :: O, k + 1, x, h1, h => by
    have := h1 0 y (by omega) rfl
    unfold insG
    rw [if_pos this, insG_there (k := k) (fun j z hj hz => h1 (j + 1) z (by omega) (by simpa using hz)) (by simpa using h)]
theorem up_nodup {O : List Gr} (h : O.Pairwise fun x y => numG x < numG y) : O.Nodup := List.Pairwise.imp (fun {a b} h e => by rw [e] at h; omega) h
theorem not_in_up {O : List Gr} {k : Nat} {x : Gr} (h : O.Pairwise fun x y => numG x < numG y) (h1 : ∀ j y, j < k → O[j]? = some y → numG y < numG x) (h2 : ∀ y, O[k]? = some y → numG x < numG y) : x ∉ O := fun hx => by
  obtain ⟨j, hj⟩ := List.getElem?_of_mem hx
  obtain ⟨hj1, hj2⟩ := List.getElem?_eq_some_iff.1 hj
  rcases Nat.lt_trichotomy j k with hlt | rfl | hgt
  · have := h1 j x hlt hj
    omega
  · have := h2 x hj
    omega
  · have h3 := List.pairwise_iff_getElem.1 h k j (by omega) hj1 hgt
    have h4 := h2 _ (List.getElem?_eq_getElem (by omega))
    rw [hj2] at h3
    omega
theorem bytesLess_self : ∀ l : List UInt8, Op.bytesLess l l = false
  | [] => rfl
  | a :: l => by simp [Op.bytesLess, bytesLess_self l]
theorem bytesLess_asym : ∀ {l m : List UInt8}, Op.bytesLess l m = true → Op.bytesLess m l = false
  | [], [], h => rfl
  | [], _ :: _, _ => rfl
  | _ :: _, [], h => by simp [Op.bytesLess] at h
  | a :: l, b :: m, h => by
    simp only [Op.bytesLess, Bool.or_eq_true, Bool.and_eq_true, decide_eq_true_eq, beq_iff_eq] at h
    rcases h with h | ⟨rfl, h⟩
    · have h1 : ¬ b < a := fun h2 => by
        rw [UInt8.lt_iff_toNat_lt] at h h2
        omega
      have h2 : b ≠ a := fun e => by
        rw [e, UInt8.lt_iff_toNat_lt] at h
        omega
      simp [Op.bytesLess, h1, h2]
    · simp [Op.bytesLess, bytesLess_asym h]
theorem not_less_text {x y : Gr} (h : ¬ numG x < numG y) : Op.bytesLess (grS x).toList (grS y).toList = false := by
  by_cases e : x = y
  · subst e
    exact bytesLess_self _
  · have : numG y ≠ numG x := fun h2 => e (numG_inj h2).symm
    exact bytesLess_asym (less_text (by omega))
theorem grS_inj {x y : Gr} (h : grS x = grS y) : x = y := by
  obtain ⟨a, b, c⟩ := x
  obtain ⟨p, q, r⟩ := y
  simp only [grS, ByteArray.mk.injEq, Array.mk.injEq, List.cons.injEq, and_true] at h
  obtain ⟨rfl, rfl, rfl⟩ := h
  rfl
/-- the places of a gram behind one more place -/
theorem posOf_more {gs : List Gr} {i : Nat} {g : Gr} (h : gs[i]? = some g) : posOf gs g (i + 1) = posOf gs g i ++ [i] := by rw [posOf_succ h, if_pos rfl]
theorem posOf_other {gs : List Gr} {i : Nat} {g x : Gr} (h : gs[i]? = some g) (hne : x ≠ g) : posOf gs x (i + 1) = posOf gs x i := by rw [posOf_succ h, if_neg hne]
theorem posOf_none {gs : List Gr} {i : Nat} {g : Gr} (h : g ∉ gs.take i) : posOf gs g i = [] := by
  rw [posOf, List.filter_eq_nil_iff]
  intro j hj he
  rw [List.mem_range] at hj
  refine h ?_
  have h1 : gs[j]? = some g := by simpa using he
  refine List.mem_of_getElem? (i := j) ?_
  rw [List.getElem?_take, if_pos hj]
  exact h1
end Go.Proofs.Ytamdejidkgnaeaa
