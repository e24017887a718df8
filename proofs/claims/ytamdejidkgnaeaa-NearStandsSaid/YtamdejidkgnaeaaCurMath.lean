/-
  Rows of integers that rise: sought, met, joined, taken from each other. No program is in sight.
-/
namespace CurM
def Up (l : List Int) : Prop := l.Pairwise (· < ·)
theorem up_nil : Up [] := List.Pairwise.nil
theorem up_cons {x : Int} {l : List Int} : Up (x :: l) ↔ (∀ y ∈ l, x < y) ∧ Up l := List.pairwise_cons
theorem up_ext : ∀ {a b : List Int}, Up a → Up b → (∀ x, x ∈ a ↔ x ∈ b) → a = b
  | [], [], _, _, _ => rfl
  | [], y :: b, _, _, h => by have := (h y).2 (by simp); simp at this
  | x :: a, [], _, _, h => by have := (h x).1 (by simp); simp at this
  | x :: a, y :: b, ha, hb, h => by
    have h1 := (h x).1 (by simp)
    have h2 := (h y).2 (by simp)
    have e : x = y := by
      simp only [List.mem_cons] at h1 h2
      rcases h1 with h1 | h1
      · exact h1
      · rcases h2 with h2 | h2
        · exact h2.symm
        · have := (up_cons.1 hb).1 x h1
          have := (up_cons.1 ha).1 y h2
          omega
    subst e
    have ht : a = b := up_ext (up_cons.1 ha).2 (up_cons.1 hb).2 fun z => by
      have hz := h z
      simp only [List.mem_cons] at hz
      constructor
      · intro hm
        have := (up_cons.1 ha).1 z hm
        rcases hz.1 (Or.inr hm) with e | e
        · omega
        · exact e
      · intro hm
        have := (up_cons.1 hb).1 z hm
        rcases hz.2 (Or.inr hm) with e | e
        · omega
        · exact e
    rw [ht]

/-- what is left from a number on -/
def seek (n : Int) : List Int → List Int
  | [] => []
  | x :: l => if x < n then seek n l else x :: l
theorem mem_seek {n x : Int} : ∀ {l : List Int}, Up l → (x ∈ seek n l ↔ x ∈ l ∧ n ≤ x)
  | [], _ => by simp [seek]
  | y :: l, h => by
    obtain ⟨h1, h2⟩ := up_cons.1 h
    unfold seek
    split
    · rename_i hy
      rw [mem_seek h2, List.mem_cons]
      constructor
      · rintro ⟨a, b⟩
        exact ⟨Or.inr a, b⟩
      · rintro ⟨a | a, b⟩
        · omega
        · exact ⟨a, b⟩
    · rename_i hy
      rw [List.mem_cons]
      constructor
      · intro a
        refine ⟨a, ?_⟩
        rcases a with a | a
        · omega
        · have := h1 x a
          omega
      · exact fun a => a.1
theorem up_seek {n : Int} : ∀ {l : List Int}, Up l → Up (seek n l)
  | [], _ => up_nil
  | y :: l, h => by
    unfold seek
    split
    · exact up_seek (up_cons.1 h).2
    · exact h
theorem seek_drop (n : Int) : ∀ (l : List Int), ∃ k, k ≤ l.length ∧ seek n l = l.drop k ∧ (∀ j x, j < k → l[j]? = some x → x < n) ∧ (∀ x, l[k]? = some x → n ≤ x)
  | [] => ⟨0, Nat.le_refl _, rfl, fun j x h => by omega, fun x h => by simp at h⟩
  | y :: l => by
    unfold seek
    split
    · rename_i hy
      obtain ⟨k, h1, h2, h3, h4⟩ := seek_drop n l
      refine ⟨k + 1, by simp; omega, h2, fun j x hj hx => ?_, fun x hx => h4 x (by simpa using hx)⟩
      cases j with
      | zero =>
        have : y = x := by simpa using hx
        omega
      | succ j => exact h3 j x (by omega) (by simpa using hx)
    · rename_i hy
      refine ⟨0, Nat.zero_le _, rfl, fun j x h => by omega, fun x hx => ?_⟩
      have : y = x := by simpa using hx
      omega
/-- where it is cut is known by what stands ahead, and there -/
theorem seek_at {n : Int} {l : List Int} {k : Nat} (hk : k ≤ l.length) (h1 : ∀ j x, j < k → l[j]? = some x → x < n) (h2 : ∀ x, l[k]? = some x → n ≤ x) : seek n l = l.drop k := by
  obtain ⟨m, g1, g2, g3, g4⟩ := seek_drop n l
  rw [g2]
  rcases Nat.lt_trichotomy k m with h | h | h
  · have hx : l[k]? = some l[k] := List.getElem?_eq_getElem (by omega)
    have := g3 k _ h hx
    have := h2 _ hx
    omega
  · rw [h]
  · have hx : l[m]? = some l[m] := List.getElem?_eq_getElem (by omega)
    have := h1 m _ h hx
    have := g4 _ hx
    omega
theorem seek_next {n : Int} {t : List Int} (h : Up (n :: t)) : seek (n + 1) (n :: t) = t := by
  refine up_ext (up_seek h) (up_cons.1 h).2 fun x => ?_
  rw [mem_seek h, List.mem_cons]
  constructor
  · rintro ⟨a | a, b⟩
    · omega
    · exact a
  · intro a
    have := (up_cons.1 h).1 x a
    exact ⟨Or.inr a, by omega⟩
theorem seek_head {n : Int} {t : List Int} : seek n (n :: t) = n :: t := by
  unfold seek
  rw [if_neg (by omega)]
theorem seek_len (n : Int) (l : List Int) : (seek n l).length ≤ l.length := by
  obtain ⟨k, -, e, -⟩ := seek_drop n l
  rw [e, List.length_drop]
  omega
theorem seek_less {n x : Int} {t : List Int} (h : x < n) : (seek n (x :: t)).length < (x :: t).length := by
  unfold seek
  rw [if_pos h]
  have := seek_len n t
  simp only [List.length_cons]
  omega

/-- what stands in all -/
def meetL : List (List Int) → List Int
  | [] => []
  | l :: r => l.filter fun x => (l :: r).all (·.contains x)
theorem mem_meet {x : Int} {ls : List (List Int)} : x ∈ meetL ls ↔ ls ≠ [] ∧ ∀ l ∈ ls, x ∈ l := by
  cases ls with
  | nil => simp [meetL]
  | cons l r =>
    simp only [meetL, List.mem_filter, List.all_eq_true, List.contains_iff_mem]
    constructor
    · rintro ⟨_, h⟩
      exact ⟨by simp, h⟩
    · rintro ⟨_, h⟩
      exact ⟨h l (by simp), h⟩
theorem up_meet {ls : List (List Int)} (h : ∀ l ∈ ls, Up l) : Up (meetL ls) := by
  cases ls with
  | nil => exact up_nil
  | cons l r => exact List.Pairwise.filter _ (h l (by simp))
/-- what stands in the first one and not in the second -/
def lessL (a b : List Int) : List Int := a.filter fun x => !b.contains x
theorem mem_less {x : Int} {a b : List Int} : x ∈ lessL a b ↔ x ∈ a ∧ x ∉ b := by simp [lessL]
theorem up_less {a b : List Int} (h : Up a) : Up (lessL a b) := List.Pairwise.filter _ h
/-- a number put where it belongs -/
def ins : List Int → Int → List Int
  | [], x => [x]
  | y :: l, x => if y < x then y :: ins l x else if y = x then y :: l else x :: y :: l
theorem mem_ins {x z : Int} : ∀ {l : List Int}, z ∈ ins l x ↔ z = x ∨ z ∈ l
  | [] => by simp [ins]
  | y :: l => by
    unfold ins
    split
    · rw [List.mem_cons, mem_ins, List.mem_cons]
      constructor
      · rintro (h | h | h)
        · exact Or.inr (Or.inl h)
        · exact Or.inl h
        · exact Or.inr (Or.inr h)
      · rintro (h | h | h)
        · exact Or.inr (Or.inl h)
        · exact Or.inl h
        · exact Or.inr (Or.inr h)
    · split
      · rename_i h1 h2
        rw [List.mem_cons]
        constructor
        · intro h
          exact Or.inr h
        · rintro (h | h)
          · exact Or.inl (by omega)
          · exact h
      · simp
theorem up_ins {x : Int} : ∀ {l : List Int}, Up l → Up (ins l x)
  | [], _ => by simp [ins, Up]
  | y :: l, h => by
    obtain ⟨h1, h2⟩ := up_cons.1 h
    unfold ins
    split
    · rename_i hy
      refine up_cons.2 ⟨fun z hz => ?_, up_ins h2⟩
      rcases mem_ins.1 hz with e | e
      · omega
      · exact h1 z e
    · split
      · exact h
      · rename_i h3 h4
        refine up_cons.2 ⟨fun z hz => ?_, h⟩
        rcases List.mem_cons.1 hz with e | e
        · omega
        · have := h1 z e
          omega
def insAll (o l : List Int) : List Int := l.foldl ins o
theorem mem_insAll {z : Int} : ∀ {l o : List Int}, z ∈ insAll o l ↔ z ∈ o ∨ z ∈ l
  | [], o => by simp [insAll]
  | x :: l, o => by
    show z ∈ insAll (ins o x) l ↔ _
    rw [mem_insAll, mem_ins, List.mem_cons]
    constructor
    · rintro ((h | h) | h)
      · exact Or.inr (Or.inl h)
      · exact Or.inl h
      · exact Or.inr (Or.inr h)
    · rintro (h | h | h)
      · exact Or.inl (Or.inr h)
      · exact Or.inl (Or.inl h)
      · exact Or.inr h
theorem up_insAll : ∀ {l o : List Int}, Up o → Up (insAll o l)
  | [], _, h => h
  | x :: l, o, h => show Up (insAll (ins o x) l) from up_insAll (up_ins h)
/-- what stands in one -/
def joinL (ls : List (List Int)) : List Int := ls.foldl insAll []
theorem mem_joinTo {z : Int} : ∀ {ls : List (List Int)} {o : List Int}, z ∈ ls.foldl insAll o ↔ z ∈ o ∨ ∃ l ∈ ls, z ∈ l
  | [], o => by simp
  | l :: ls, o => by
    rw [List.foldl_cons, mem_joinTo, mem_insAll]
    constructor
    · rintro ((h | h) | ⟨m, h1, h2⟩)
      · exact Or.inl h
      · exact Or.inr ⟨l, by simp, h⟩
      · exact Or.inr ⟨m, by simp [h1], h2⟩
    · rintro (h | ⟨m, h1, h2⟩)
      · exact Or.inl (Or.inl h)
      · rcases List.mem_cons.1 h1 with e | e
        · exact Or.inl (Or.inr (e ▸ h2))
        · exact Or.inr ⟨m, e, h2⟩
theorem mem_join {z : Int} {ls : List (List Int)} : z ∈ joinL ls ↔ ∃ l ∈ ls, z ∈ l := by
  rw [joinL, mem_joinTo]
  simp
theorem up_joinTo : ∀ {ls : List (List Int)} {o : List Int}, Up o → Up (ls.foldl insAll o)
  | [], _, h => h
  | _ :: ls, _, h => up_joinTo (ls := ls) (up_insAll h)
theorem up_join (ls : List (List Int)) : Up (joinL ls) := up_joinTo up_nil

/-- all numbers between two -/
def spanL (a b : Int) : List Int := (List.range (b - a).toNat).map fun i : Nat => a + i
theorem mem_span {a b x : Int} : x ∈ spanL a b ↔ a ≤ x ∧ x < b := by
  simp only [spanL, List.mem_map, List.mem_range]
  constructor
  · rintro ⟨i, h, rfl⟩
    omega
  · rintro ⟨h1, h2⟩
    exact ⟨(x - a).toNat, by omega, by omega⟩
theorem up_span (a b : Int) : Up (spanL a b) := by
  unfold Up spanL
  rw [List.pairwise_map]
  exact List.Pairwise.imp (fun h => by omega) List.pairwise_lt_range
theorem seek_span (n a b : Int) : seek n (spanL a b) = spanL (max a n) b := by
  refine up_ext (up_seek (up_span _ _)) (up_span _ _) fun x => ?_
  rw [mem_seek (up_span _ _), mem_span, mem_span]
  omega
theorem span_nil {a b : Int} (h : b ≤ a) : spanL a b = [] := by
  rw [spanL, show (b - a).toNat = 0 by omega]
  rfl
theorem span_cons {a b : Int} (h : a < b) : spanL a b = a :: spanL (a + 1) b := by
  have e : seek a (spanL a b) = spanL a b := by rw [seek_span, Int.max_self]
  refine up_ext (up_span _ _) (up_cons.2 ⟨fun y hy => by have := mem_span.1 hy; omega, up_span _ _⟩) fun x => ?_
  rw [List.mem_cons, mem_span, mem_span]
  omega

/-- numbers above all ahead -/
def rowStep (o : List Int) (x : Int) : List Int := match o.getLast? with
  | none => [x]
  | some y => if y < x then o ++ [x] else o
def rowL (l : List Int) : List Int := l.foldl rowStep []
theorem up_snoc {o : List Int} {x : Int} (h : Up o) (hx : ∀ y, o.getLast? = some y → y < x) : Up (o ++ [x]) := by
  refine List.pairwise_append.2 ⟨h, by simp, fun a ha b hb => ?_⟩
  obtain rfl : b = x := by simpa using hb
  rcases List.eq_nil_or_concat o with e | ⟨p, q, e⟩
  · rw [e] at ha
    simp at ha
  · subst e
    have h1 := hx q (by simp)
    rcases List.mem_append.1 (by simpa using ha : a ∈ p ++ [q]) with h3 | h3
    · have := (List.pairwise_append.1 (by simpa [Up] using h : (p ++ [q]).Pairwise (· < ·))).2.2 a h3 q (by simp)
      omega
    · obtain rfl : a = q := by simpa using h3
      exact h1
theorem up_rowStep {o : List Int} (x : Int) (h : Up o) : Up (rowStep o x) := by
  unfold rowStep
  split
  · simp [Up]
  · rename_i y hy
    split
    · rename_i hlt
      exact up_snoc h fun z hz => by
        rw [hy] at hz
        injection hz with hz
        omega
    · exact h
theorem up_rowTo : ∀ (l : List Int) {o : List Int}, Up o → Up (l.foldl rowStep o)
  | [], _, h => h
  | x :: l, _, h => up_rowTo l (up_rowStep x h)
theorem up_row (l : List Int) : Up (rowL l) := up_rowTo l up_nil
theorem row_snoc (l : List Int) (x : Int) : rowL (l ++ [x]) = rowStep (rowL l) x := by simp [rowL]
theorem mem_rowStep {o : List Int} {x z : Int} (h : z ∈ rowStep o x) : z ∈ o ∨ z = x := by
  unfold rowStep at h
  split at h
  · exact Or.inr (by simpa using h)
  · split at h
    · rcases List.mem_append.1 h with h | h
      · exact Or.inl h
      · exact Or.inr (by simpa using h)
    · exact Or.inl h
theorem mem_rowTo : ∀ {l : List Int} {o : List Int} {z : Int}, z ∈ l.foldl rowStep o → z ∈ o ∨ z ∈ l
  | [], _, _, h => Or.inl h
  | x :: l, o, z, h => by
    rcases mem_rowTo (l := l) h with h | h
    · rcases mem_rowStep h with h | h
      · exact Or.inl h
      · exact Or.inr (by simp [h])
    · exact Or.inr (by simp [h])
theorem mem_row {l : List Int} {z : Int} (h : z ∈ rowL l) : z ∈ l := by
  rcases mem_rowTo h with h | h
  · simp at h
  · exact h
theorem rowStep_len (o : List Int) (x : Int) : (rowStep o x).length ≤ o.length + 1 := by
  unfold rowStep
  split
  · simp
  · split <;> simp
theorem rowTo_len : ∀ (l : List Int) (o : List Int), (l.foldl rowStep o).length ≤ o.length + l.length
  | [], o => by simp
  | x :: l, o => by
    have := rowTo_len l (rowStep o x)
    have := rowStep_len o x
    simp only [List.foldl_cons, List.length_cons]
    omega
theorem row_len (l : List Int) : (rowL l).length ≤ l.length := by have := rowTo_len l []; simpa [rowL] using this

/-! what moves keep -/
theorem meet_seek {ls : List (List Int)} (h : ∀ l ∈ ls, Up l) (n : Int) : meetL (ls.map (seek n)) = seek n (meetL ls) := by
  refine up_ext (up_meet fun l hl => ?_) (up_seek (up_meet h)) fun x => ?_
  · obtain ⟨m, hm, rfl⟩ := List.mem_map.1 hl
    exact up_seek (h m hm)
  · rw [mem_meet, mem_seek (up_meet h), mem_meet]
    constructor
    · rintro ⟨h1, h2⟩
      have h3 : ls ≠ [] := by rintro rfl; exact h1 rfl
      refine ⟨⟨h3, fun l hl => ((mem_seek (h l hl)).1 (h2 _ (List.mem_map.2 ⟨l, hl, rfl⟩))).1⟩, ?_⟩
      cases ls with
      | nil => exact absurd rfl h3
      | cons l r => exact ((mem_seek (h l (by simp))).1 (h2 _ (by simp))).2
    · rintro ⟨⟨h1, h2⟩, h3⟩
      refine ⟨by simpa using h1, fun l hl => ?_⟩
      obtain ⟨m, hm, rfl⟩ := List.mem_map.1 hl
      exact (mem_seek (h m hm)).2 ⟨h2 m hm, h3⟩
theorem join_seek {ls : List (List Int)} (h : ∀ l ∈ ls, Up l) (n : Int) : joinL (ls.map (seek n)) = seek n (joinL ls) := by
  refine up_ext (up_join _) (up_seek (up_join _)) fun x => ?_
  rw [mem_join, mem_seek (up_join _), mem_join]
  constructor
  · rintro ⟨l, hl, hx⟩
    obtain ⟨m, hm, rfl⟩ := List.mem_map.1 hl
    have := (mem_seek (h m hm)).1 hx
    exact ⟨⟨m, hm, this.1⟩, this.2⟩
  · rintro ⟨⟨l, hl, hx⟩, hn⟩
    exact ⟨_, List.mem_map.2 ⟨l, hl, rfl⟩, (mem_seek (h l hl)).2 ⟨hx, hn⟩⟩
theorem less_seek {a b : List Int} (ha : Up a) (n : Int) : lessL (seek n a) b = seek n (lessL a b) := by
  refine up_ext (up_less (up_seek ha)) (up_seek (up_less ha)) fun x => ?_
  rw [mem_less, mem_seek ha, mem_seek (up_less ha), mem_less]
  constructor
  · rintro ⟨⟨h1, h2⟩, h3⟩
    exact ⟨⟨h1, h3⟩, h2⟩
  · rintro ⟨⟨h1, h3⟩, h2⟩
    exact ⟨⟨h1, h2⟩, h3⟩
/-- one row of some is sought, ahead of what all hold -/
theorem meet_set {ls : List (List Int)} (h : ∀ l ∈ ls, Up l) {i : Nat} {l : List Int} (hi : ls[i]? = some l) {n : Int} (hn : ∀ x ∈ meetL ls, n ≤ x) : meetL (ls.set i (seek n l)) = meetL ls := by
  have hmem : l ∈ ls := List.mem_of_getElem? hi
  have hup : ∀ m ∈ ls.set i (seek n l), Up m := fun m hm => by
    rcases List.mem_or_eq_of_mem_set hm with e | e
    · exact h m e
    · rw [e]
      exact up_seek (h l hmem)
  refine up_ext (up_meet hup) (up_meet h) fun x => ?_
  have hne : ls.set i (seek n l) ≠ [] ↔ ls ≠ [] := by simp [List.set_eq_nil_iff]
  rw [mem_meet, mem_meet, hne]
  constructor
  · rintro ⟨h1, h2⟩
    refine ⟨h1, fun m hm => ?_⟩
    obtain ⟨j, hj⟩ := List.getElem?_of_mem hm
    by_cases e : j = i
    · subst e
      rw [hi] at hj
      injection hj with hj
      subst hj
      have hlt := (List.getElem?_eq_some_iff.1 hi).1
      have := h2 (seek n l) (List.mem_of_getElem? (i := j) (by rw [List.getElem?_set_self hlt]))
      exact ((mem_seek (h l hmem)).1 this).1
    · exact h2 m (List.mem_of_getElem? (i := j) (by rw [List.getElem?_set_ne (Ne.symm e)]; exact hj))
  · rintro ⟨h1, h2⟩
    refine ⟨h1, fun m hm => ?_⟩
    rcases List.mem_or_eq_of_mem_set hm with e | e
    · exact h2 m e
    · rw [e]
      exact (mem_seek (h l hmem)).2 ⟨h2 l hmem, hn x (mem_meet.2 ⟨h1, h2⟩)⟩
theorem meet_none {ls : List (List Int)} (h : [] ∈ ls) : meetL ls = [] := by
  rw [List.eq_nil_iff_forall_not_mem]
  intro x hx
  have := (mem_meet.1 hx).2 [] h
  simp at this
theorem meet_head {n : Int} {t : List Int} {r : List (List Int)} (h : Up (n :: t)) (hr : ∀ l ∈ r, n ∈ l) (hup : ∀ l ∈ r, Up l) : ∃ s, meetL ((n :: t) :: r) = n :: s := by
  have hu : Up (meetL ((n :: t) :: r)) := up_meet (by
    intro l hl
    rcases List.mem_cons.1 hl with e | e
    · rw [e]; exact h
    · exact hup l e)
  have hm : n ∈ meetL ((n :: t) :: r) := mem_meet.2 ⟨by simp, fun l hl => by
    rcases List.mem_cons.1 hl with e | e
    · rw [e]; simp
    · exact hr l e⟩
  cases hc : meetL ((n :: t) :: r) with
  | nil => rw [hc] at hm; simp at hm
  | cons y s =>
    rw [hc] at hm hu
    have hy : y ∈ meetL ((n :: t) :: r) := by rw [hc]; simp
    have hyt := (mem_meet.1 hy).2 (n :: t) (by simp)
    have : n = y := by
      rcases List.mem_cons.1 hm with e | e
      · exact e
      · have h1 := (up_cons.1 hu).1 n e
        rcases List.mem_cons.1 hyt with e2 | e2
        · exact e2.symm
        · have := (up_cons.1 h).1 y e2
          omega
    exact ⟨s, by rw [this]⟩
/-- the second row is sought at the first one's first number -/
theorem less_set {n : Int} {t b : List Int} (h : Up (n :: t)) (hb : Up b) : lessL (n :: t) (seek n b) = lessL (n :: t) b := by
  refine up_ext (up_less h) (up_less h) fun x => ?_
  rw [mem_less, mem_less, mem_seek hb]
  constructor
  · rintro ⟨h1, h2⟩
    refine ⟨h1, fun h3 => h2 ⟨h3, ?_⟩⟩
    rcases List.mem_cons.1 h1 with e | e
    · omega
    · have := (up_cons.1 h).1 x e
      omega
  · rintro ⟨h1, h2⟩
    exact ⟨h1, fun h3 => h2 h3.1⟩
theorem less_skip {n : Int} {t b : List Int} (hb : n ∈ b) : lessL (n :: t) b = lessL t b := by simp [lessL, hb]
theorem less_stay {n : Int} {t b : List Int} (hb : n ∉ b) : lessL (n :: t) b = n :: lessL t b := by simp [lessL, hb]
theorem less_nil (b : List Int) : lessL [] b = [] := rfl
/-- the head of a row that is sought at a number -/
theorem seek_in {n x : Int} {l t : List Int} (hl : Up l) (h : seek n l = x :: t) : n ≤ x ∧ (x = n ↔ n ∈ l) := by
  have h1 := (mem_seek (n := n) hl).1 (by rw [h]; simp : x ∈ seek n l)
  refine ⟨h1.2, fun e => e ▸ h1.1, fun hn => ?_⟩
  have h2 : n ∈ seek n l := (mem_seek hl).2 ⟨hn, Int.le_refl _⟩
  rw [h] at h2
  have hu : Up (x :: t) := by rw [← h]; exact up_seek hl
  rcases List.mem_cons.1 h2 with e | e
  · exact e.symm
  · have := (up_cons.1 hu).1 n e
    omega
theorem seek_out {n : Int} {l : List Int} (hl : Up l) (h : seek n l = []) : ∀ x ∈ l, x < n := fun x hx => by
  rcases Int.lt_or_le x n with h1 | h1
  · exact h1
  · have : x ∈ seek n l := (mem_seek hl).2 ⟨hx, h1⟩
    rw [h] at this
    simp at this
theorem up_hd {n : Int} {t : List Int} (h : Up (n :: t)) {x : Int} (hx : x ∈ n :: t) : n ≤ x := by
  rcases List.mem_cons.1 hx with e | e
  · omega
  · have := (up_cons.1 h).1 x e
    omega
/-- the least of what is first -/
def least : Option Int → List (List Int) → Option Int
  | o, [] => o
  | o, l :: r => least (match l with
    | [] => o
    | x :: _ => match o with
      | none => some x
      | some y => if x < y then some x else some y) r
def leastStep (o : Option Int) (l : List Int) : Option Int := match l with
  | [] => o
  | x :: _ => match o with
    | none => some x
    | some y => if x < y then some x else some y
theorem least_cons (o : Option Int) (l : List Int) (r : List (List Int)) : least o (l :: r) = least (leastStep o l) r := rfl
theorem head_join {ls : List (List Int)} (h : ∀ l ∈ ls, Up l) : (joinL ls).head? = ls.foldl leastStep none := by
  have key : ∀ (r : List (List Int)) (o : Option Int), (∀ l ∈ r, Up l) →
      (∀ x, r.foldl leastStep o = some x → (o = some x ∨ ∃ l ∈ r, x ∈ l) ∧ (∀ y, o = some y → x ≤ y) ∧ ∀ l ∈ r, ∀ y ∈ l, x ≤ y) ∧ (r.foldl leastStep o = none → o = none ∧ ∀ l ∈ r, l = []) := by
    intro r
    induction r with
    | nil => intro o _; exact ⟨fun x hx => ⟨Or.inl hx, fun y hy => by rw [show o = some x from hx] at hy; injection hy with hy; omega, fun l hl => by simp at hl⟩, fun hx => ⟨hx, fun l hl => by simp at hl⟩⟩
    | cons l r ih =>
      intro o hu
      obtain ⟨i1, i2⟩ := ih (leastStep o l) fun m hm => hu m (by simp [hm])
      have hl := hu l (by simp)
      refine ⟨fun x hx => ?_, fun hx => ?_⟩
      · obtain ⟨j1, j2, j3⟩ := i1 x hx
        cases l with
        | nil =>
          refine ⟨?_, j2, fun m hm y hy => ?_⟩
          · rcases j1 with j1 | ⟨m, hm, hxm⟩
            · exact Or.inl j1
            · exact Or.inr ⟨m, by simp [hm], hxm⟩
          · rcases List.mem_cons.1 hm with e | e
            · rw [e] at hy; simp at hy
            · exact j3 m e y hy
        | cons z t =>
          have hz : ∀ q, leastStep o (z :: t) = some q → (o = some q ∨ q = z) ∧ q ≤ z ∧ ∀ y, o = some y → q ≤ y := by
            intro q hq
            cases o with
            | none =>
              have : z = q := by simpa [leastStep] using hq
              exact ⟨Or.inr this.symm, by omega, fun y hy => by cases hy⟩
            | some w =>
              unfold leastStep at hq
              simp only at hq
              split at hq <;> injection hq with hq <;> subst hq
              · exact ⟨Or.inr rfl, by omega, fun y hy => by injection hy with hy; omega⟩
              · exact ⟨Or.inl rfl, by omega, fun y hy => by injection hy with hy; omega⟩
          have hs : ∃ q, leastStep o (z :: t) = some q := by
            cases o with
            | none => exact ⟨z, rfl⟩
            | some w => unfold leastStep; simp only; split <;> exact ⟨_, rfl⟩
          obtain ⟨q, hq⟩ := hs
          obtain ⟨k1, k2, k3⟩ := hz q hq
          have hxq := j2 q hq
          refine ⟨?_, fun y hy => by have := k3 y hy; omega, fun m hm y hy => ?_⟩
          · rcases j1 with j1 | ⟨m, hm, hxm⟩
            · rw [hq] at j1
              injection j1 with j1
              subst j1
              rcases k1 with k1 | k1
              · exact Or.inl k1
              · exact Or.inr ⟨z :: t, by simp, by simp [k1]⟩
            · exact Or.inr ⟨m, by simp [hm], hxm⟩
          · rcases List.mem_cons.1 hm with e | e
            · rw [e] at hy
              have := up_hd hl hy
              omega
            · exact j3 m e y hy
      · obtain ⟨j1, j2⟩ := i2 hx
        cases l with
        | nil => exact ⟨j1, fun m hm => by
            rcases List.mem_cons.1 hm with e | e
            · exact e
            · exact j2 m e⟩
        | cons z t =>
          exfalso
          cases o with
          | none => simp [leastStep] at j1
          | some w => unfold leastStep at j1; simp only at j1; split at j1 <;> cases j1
  obtain ⟨k1, k2⟩ := key ls none h
  cases hc : ls.foldl leastStep none with
  | none =>
    have := (k2 hc).2
    have hj : joinL ls = [] := by
      rw [List.eq_nil_iff_forall_not_mem]
      intro x hx
      obtain ⟨l, hl, hxl⟩ := mem_join.1 hx
      rw [this l hl] at hxl
      simp at hxl
    rw [hj]
    rfl
  | some x =>
    obtain ⟨j1, _, j3⟩ := k1 x hc
    rcases j1 with j1 | ⟨l, hl, hxl⟩
    · cases j1
    · have hx : x ∈ joinL ls := mem_join.2 ⟨l, hl, hxl⟩
      cases hj : joinL ls with
      | nil => rw [hj] at hx; simp at hx
      | cons y s =>
        have hu := up_join ls
        have hy : y ∈ joinL ls := by rw [hj]; simp
        obtain ⟨m, hm, hym⟩ := mem_join.1 hy
        have h1 := j3 m hm y hym
        rw [hj] at hx hu
        have h2 := up_hd hu hx
        simp only [List.head?_cons, Option.some.injEq]
        omega
end CurM
