/-
  Places of three bytes, and of longer runs, in documents. No program is in sight.
-/
import Derived.Test.YtamdejidkgnaeaaCurMath
namespace NearM
set_option linter.unusedVariables false
abbrev Pl := Nat × Nat
/-- a place stands before another one -/
def Lt (p q : Pl) : Prop := p.1 < q.1 ∨ p.1 = q.1 ∧ p.2 < q.2
theorem Lt.trans {p q r : Pl} (h : Lt p q) (h' : Lt q r) : Lt p r := by unfold Lt at *; omega
theorem Lt.irrefl (p : Pl) : ¬ Lt p p := by unfold Lt; omega
def Up (l : List Pl) : Prop := l.Pairwise Lt
/-- the three bytes at a place -/
def gAt (docs : List (List UInt8)) (p : Pl) : Option (List UInt8) :=
  (docs[p.1]?).bind fun b => if p.2 + 3 ≤ b.length then some ((b.drop p.2).take 3) else none
def rowPl (d n : Nat) : List Pl := (List.range n).map fun a => (d, a)
/-- all places of documents, the first of which is the d-th -/
def allPl : Nat → List (List UInt8) → List Pl
  | _, [] => []
  | d, b :: r => rowPl d b.length ++ allPl (d + 1) r
theorem mem_row {d n : Nat} {p : Pl} : p ∈ rowPl d n ↔ p.1 = d ∧ p.2 < n := by
  unfold rowPl
  rw [List.mem_map]
  constructor
  · rintro ⟨a, ha, rfl⟩
    exact ⟨rfl, List.mem_range.1 ha⟩
  · rintro ⟨rfl, h⟩
    exact ⟨p.2, List.mem_range.2 h, rfl⟩
theorem up_row (d n : Nat) : Up (rowPl d n) := by
  unfold Up rowPl
  rw [List.pairwise_map]
  exact List.pairwise_lt_range.imp fun h => Or.inr ⟨rfl, h⟩
theorem mem_all {p : Pl} : ∀ {docs : List (List UInt8)} {d : Nat}, p ∈ allPl d docs ↔ d ≤ p.1 ∧ ∃ b, docs[p.1 - d]? = some b ∧ p.2 < b.length
  | [], d => by simp [allPl]
  | b :: r, d => by
    rw [allPl, List.mem_append, mem_row, mem_all (docs := r) (d := d + 1)]
    constructor
    · rintro (⟨h1, h2⟩ | ⟨h1, b', h2, h3⟩)
      · exact ⟨by omega, b, by rw [h1, Nat.sub_self]; rfl, h2⟩
      · refine ⟨by omega, b', ?_, h3⟩
        rw [show p.1 - d = (p.1 - (d + 1)) + 1 by omega, List.getElem?_cons_succ]
        exact h2
    · rintro ⟨h1, b', h2, h3⟩
      rcases Nat.eq_or_lt_of_le h1 with e | e
      · rw [← e, Nat.sub_self] at h2
        injection h2 with h2
        exact Or.inl ⟨e.symm, by rw [h2]; exact h3⟩
      · rw [show p.1 - d = (p.1 - (d + 1)) + 1 by omega, List.getElem?_cons_succ] at h2
        exact Or.inr ⟨e, b', h2, h3⟩
theorem up_all : ∀ (docs : List (List UInt8)) (d : Nat), Up (allPl d docs)
  | [], _ => List.Pairwise.nil
  | b :: r, d => by
    unfold Up
    rw [allPl, List.pairwise_append]
    refine ⟨up_row d b.length, up_all r (d + 1), fun x hx y hy => ?_⟩
    have h1 := (mem_row.1 hx).1
    have h2 := (mem_all.1 hy).1
    exact Or.inl (by omega)
/-- the places of three bytes -/
def plOf (docs : List (List UInt8)) (g : List UInt8) : List Pl := (allPl 0 docs).filter fun p => decide (gAt docs p = some g)
theorem up_plOf (docs : List (List UInt8)) (g : List UInt8) : Up (plOf docs g) := (up_all docs 0).filter _
theorem gAt_some {docs : List (List UInt8)} {p : Pl} {g : List UInt8} (h : gAt docs p = some g) : ∃ b, docs[p.1]? = some b ∧ p.2 + 3 ≤ b.length ∧ (b.drop p.2).take 3 = g := by
  unfold gAt at h
  cases hb : docs[p.1]? with
  | none => rw [hb] at h; cases h
  | some b =>
    rw [hb] at h
    simp only [Option.bind_some] at h
    split at h
    · rename_i hl
      injection h with h
      exact ⟨b, rfl, hl, h⟩
    · cases h
theorem gAt_of {docs : List (List UInt8)} {p : Pl} {b : List UInt8} (hb : docs[p.1]? = some b) (hl : p.2 + 3 ≤ b.length) : gAt docs p = some ((b.drop p.2).take 3) := by
  unfold gAt
  rw [hb]
  simp [hl]
theorem mem_plOf {docs : List (List UInt8)} {g : List UInt8} {p : Pl} : p ∈ plOf docs g ↔ gAt docs p = some g := by
  unfold plOf
  rw [List.mem_filter, decide_eq_true_eq]
  constructor
  · exact fun h => h.2
  · intro h
    obtain ⟨b, hb, hl, -⟩ := gAt_some h
    exact ⟨mem_all.2 ⟨Nat.zero_le _, b, by simpa using hb, by omega⟩, h⟩
/-- the grams of a run -/
def gramsT (run : List UInt8) : List (List UInt8) := (List.range (run.length - 2)).map fun k => (run.drop k).take 3
/-- where a run may stand by its grams' places -/
def nearP (docs : List (List UInt8)) : List (List UInt8) → List Pl
  | [] => []
  | g :: r => (plOf docs g).filter fun x => (r.zipIdx).all fun y => decide ((x.1, x.2 + (y.2 + 1)) ∈ plOf docs y.1)
/-- a run stands at a place -/
def stands (docs : List (List UInt8)) (run : List UInt8) (p : Pl) : Bool :=
  match docs[p.1]? with
  | some b => decide (p.2 + run.length ≤ b.length) && decide ((b.drop p.2).take run.length = run)
  | none => false
theorem drop_take_get {b run : List UInt8} {a : Nat} (h : a + run.length ≤ b.length) : (b.drop a).take run.length = run ↔ ∀ j, j < run.length → b[a + j]? = run[j]? := by
  constructor
  · intro e j hj
    have h1 := congrArg (fun l => l[j]?) e
    simp only [List.getElem?_take, List.getElem?_drop] at h1
    rw [if_pos hj] at h1
    exact h1
  · intro e
    refine List.ext_getElem? fun j => ?_
    rw [List.getElem?_take]
    split
    · rename_i hj
      rw [List.getElem?_drop]
      exact e j hj
    · rename_i hj
      rw [List.getElem?_eq_none (by omega)]
theorem near_at {docs : List (List UInt8)} {run : List UInt8} (hr : 3 ≤ run.length) (p : Pl) : (∀ k, k < run.length - 2 → gAt docs (p.1, p.2 + k) = some ((run.drop k).take 3)) ↔ stands docs run p = true := by
  unfold stands
  constructor
  · intro h
    obtain ⟨b, hb, hl, -⟩ := gAt_some (h 0 (by omega))
    have hb' : docs[p.1]? = some b := hb
    rw [hb']
    obtain ⟨b2, hb2, hl2, -⟩ := gAt_some (h (run.length - 3) (by omega))
    obtain rfl : b = b2 := by
      have := hb.symm.trans hb2
      injection this
    have hlen : p.2 + run.length ≤ b.length := by
      simp only at hl2
      omega
    simp only [Bool.and_eq_true, decide_eq_true_eq]
    refine ⟨hlen, (drop_take_get hlen).2 fun j hj => ?_⟩
    obtain ⟨k, hk, hkj, hj3⟩ : ∃ k, k < run.length - 2 ∧ k ≤ j ∧ j < k + 3 := ⟨min j (run.length - 3), by omega, by omega, by omega⟩
    obtain ⟨b3, hb3, hl3, e⟩ := gAt_some (h k hk)
    obtain rfl : b = b3 := by
      have := hb.symm.trans hb3
      injection this
    have h1 := congrArg (fun l => l[j - k]?) e
    simp only [List.getElem?_take, List.getElem?_drop] at h1
    rw [if_pos (by omega), if_pos (by omega), show p.2 + k + (j - k) = p.2 + j by omega, show k + (j - k) = j by omega] at h1
    exact h1
  · intro h k hk
    cases hb : docs[p.1]? with
    | none => rw [hb] at h; cases h
    | some b =>
      rw [hb] at h
      simp only [Bool.and_eq_true, decide_eq_true_eq] at h
      obtain ⟨hlen, e⟩ := h
      have e2 := (drop_take_get hlen).1 e
      rw [gAt_of (p := (p.1, p.2 + k)) (b := b) hb (by simp only; omega)]
      congr 1
      refine List.ext_getElem? fun j => ?_
      simp only [List.getElem?_take, List.getElem?_drop]
      split
      · rename_i hj
        have := e2 (k + j) (by omega)
        rw [← this]
        congr 1
        omega
      · rfl
theorem near_exact {docs : List (List UInt8)} {run : List UInt8} (hr : 3 ≤ run.length) : nearP docs (gramsT run) = (allPl 0 docs).filter (stands docs run) := by
  obtain ⟨n, hn⟩ : ∃ n, run.length - 2 = n + 1 := ⟨run.length - 3, by omega⟩
  have e : gramsT run = (run.drop 0).take 3 :: (List.range n).map fun k => (run.drop (k + 1)).take 3 := by
    unfold gramsT
    rw [hn, List.range_succ_eq_map, List.map_cons, List.map_map]
    rfl
  rw [e, nearP, plOf, List.filter_filter]
  refine List.filter_congr fun x _ => ?_
  rw [Bool.eq_iff_iff, ← near_at hr x, hn]
  simp only [Bool.and_eq_true, List.all_eq_true, decide_eq_true_eq]
  constructor
  · rintro ⟨h1, h0⟩ k hk
    cases k with
    | zero => exact h0
    | succ k =>
      have h2 := h1 ((run.drop (k + 1)).take 3, k) (by
        rw [List.mk_mem_zipIdx_iff_getElem?]
        rw [List.getElem?_map, List.getElem?_range (by omega)]
        rfl)
      exact mem_plOf.1 h2
  · intro h
    refine ⟨fun y hy => ?_, h 0 (by omega)⟩
    obtain ⟨g, k⟩ := y
    rw [List.mk_mem_zipIdx_iff_getElem?, List.getElem?_map] at hy
    have hk : k < n := by
      rcases Nat.lt_or_ge k n with h' | h'
      · exact h'
      · rw [List.getElem?_eq_none (by simpa using h')] at hy
        cases hy
    rw [List.getElem?_range hk] at hy
    injection hy with hy
    rw [← hy]
    exact mem_plOf.2 (h (k + 1) (by omega))
theorem near_short {docs : List (List UInt8)} {run : List UInt8} (hr : run.length < 3) : nearP docs (gramsT run) = [] := by
  have : gramsT run = [] := by
    unfold gramsT
    rw [show run.length - 2 = 0 by omega]
    rfl
  rw [this]
  rfl
theorem up_near (docs : List (List UInt8)) (gs : List (List UInt8)) : Up (nearP docs gs) := by
  cases gs with
  | nil => exact List.Pairwise.nil
  | cons g r => exact (up_plOf docs g).filter _
/-- the place behind those that are gone through -/
theorem filter_at {α : Type} {f : α → Bool} {pre suf : List α} {x : α} (hx : f x = true) : ((pre ++ x :: suf).filter f)[(pre.filter f).length]? = some x := by
  rw [List.filter_append, List.filter_cons_of_pos hx, List.getElem?_append_right (Nat.le_refl _), Nat.sub_self]
  rfl
/-- the documents of places that rise -/
def docsOf : List Pl → List Nat
  | [] => []
  | [p] => [p.1]
  | p :: q :: r => if p.1 = q.1 then docsOf (q :: r) else p.1 :: docsOf (q :: r)
theorem mem_docsOf {d : Nat} : ∀ {l : List Pl}, d ∈ docsOf l ↔ ∃ p ∈ l, p.1 = d
  | [] => by simp [docsOf]
  | [p] => by simp [docsOf, eq_comm]
  | p :: q :: r => by
    rw [docsOf]
    split
    · rename_i h
      rw [mem_docsOf (l := q :: r)]
      constructor
      · rintro ⟨x, hx, e⟩
        exact ⟨x, List.mem_cons_of_mem _ hx, e⟩
      · rintro ⟨x, hx, e⟩
        rcases List.mem_cons.1 hx with rfl | hx
        · exact ⟨q, by simp, by rw [← h]; exact e⟩
        · exact ⟨x, hx, e⟩
    · rw [List.mem_cons, mem_docsOf (l := q :: r)]
      constructor
      · rintro (e | ⟨x, hx, e⟩)
        · exact ⟨p, by simp, e.symm⟩
        · exact ⟨x, List.mem_cons_of_mem _ hx, e⟩
      · rintro ⟨x, hx, e⟩
        rcases List.mem_cons.1 hx with rfl | hx
        · exact Or.inl e.symm
        · exact Or.inr ⟨x, hx, e⟩
theorem up_docsOf : ∀ {l : List Pl}, Up l → (docsOf l).Pairwise (· < ·)
  | [], _ => List.Pairwise.nil
  | [p], _ => by simp [docsOf]
  | p :: q :: r, h => by
    obtain ⟨h1, h2⟩ := List.pairwise_cons.1 h
    rw [docsOf]
    split
    · exact up_docsOf h2
    · rename_i hne
      refine List.pairwise_cons.2 ⟨fun d hd => ?_, up_docsOf h2⟩
      obtain ⟨x, hx, rfl⟩ := mem_docsOf.1 hd
      have hpq := h1 q (by simp)
      have hpx := h1 x hx
      rcases List.mem_cons.1 hx with rfl | hx'
      · rcases hpq with h' | h'
        · exact h'
        · exact absurd h'.1 hne
      · have hqx := (List.pairwise_cons.1 h2).1 x hx'
        unfold Lt at hpq hqx
        omega
/-- the documents in which a run may stand -/
def rowsD (docs : List (List UInt8)) (run : List UInt8) : List Nat := docsOf (nearP docs (gramsT run))
theorem up_rowsD (docs : List (List UInt8)) (run : List UInt8) : (rowsD docs run).Pairwise (· < ·) := up_docsOf (up_near docs _)
theorem mem_rowsD {docs : List (List UInt8)} {run : List UInt8} {d : Nat} : d ∈ rowsD docs run ↔ ∃ p ∈ nearP docs (gramsT run), p.1 = d := mem_docsOf
theorem near_lt {docs : List (List UInt8)} {gs : List (List UInt8)} {p : Pl} (h : p ∈ nearP docs gs) : p ∈ allPl 0 docs := by
  cases gs with
  | nil => cases h
  | cons g r => exact (List.mem_filter.1 (List.mem_filter.1 h).1).1
theorem rowsD_lt {docs : List (List UInt8)} {run : List UInt8} {d : Nat} (h : d ∈ rowsD docs run) : d < docs.length := by
  obtain ⟨p, hp, rfl⟩ := mem_rowsD.1 h
  obtain ⟨-, b, hb, -⟩ := mem_all.1 (near_lt hp)
  simpa using (List.getElem?_eq_some_iff.1 hb).1
/-- in how many runs a document is -/
def inC (docs : List (List UInt8)) (runs : List (List UInt8)) (d : Nat) : Nat := (runs.filter fun r => decide (d ∈ rowsD docs r)).length
theorem inC_snoc (docs runs : List (List UInt8)) (r : List UInt8) (d : Nat) : inC docs (runs ++ [r]) d = inC docs runs d + if d ∈ rowsD docs r then 1 else 0 := by
  unfold inC
  rw [List.filter_append, List.length_append]
  by_cases h : d ∈ rowsD docs r
  · simp [h]
  · simp [h]
theorem inC_le (docs runs : List (List UInt8)) (d : Nat) : inC docs runs d ≤ runs.length := List.length_filter_le _ _
theorem inC_all {docs runs : List (List UInt8)} {d : Nat} : inC docs runs d = runs.length ↔ ∀ r ∈ runs, d ∈ rowsD docs r := by
  unfold inC
  rw [List.length_filter_eq_length_iff]
  simp
/-- the documents in which all runs may stand -/
def allB (docs runs : List (List UInt8)) (d : Nat) : Bool := decide (runs ≠ []) && decide (inC docs runs d = runs.length)
def allD (docs runs : List (List UInt8)) : List Nat := (List.range docs.length).filter (allB docs runs)
theorem up_ints {l : List Nat} (h : l.Pairwise (· < ·)) : CurM.Up (l.map fun d : Nat => (d : Int)) := by
  unfold CurM.Up
  rw [List.pairwise_map]
  exact h.imp fun h => by omega
theorem mem_ints {l : List Nat} {d : Nat} : (d : Int) ∈ l.map (fun d : Nat => (d : Int)) ↔ d ∈ l := by
  rw [List.mem_map]
  constructor
  · rintro ⟨x, hx, e⟩
    have e : (x : Int) = d := e
    obtain rfl : x = d := by omega
    exact hx
  · exact fun h => ⟨d, h, rfl⟩
theorem all_meet (docs runs : List (List UInt8)) : CurM.meetL (runs.map fun r => (rowsD docs r).map fun d : Nat => (d : Int)) = (allD docs runs).map fun d : Nat => (d : Int) := by
  refine CurM.up_ext (CurM.up_meet fun l hl => ?_) (up_ints (List.pairwise_lt_range.filter _)) fun x => ?_
  · obtain ⟨r, -, rfl⟩ := List.mem_map.1 hl
    exact up_ints (up_rowsD docs r)
  · rw [CurM.mem_meet]
    constructor
    · rintro ⟨hne, h⟩
      have hr : runs ≠ [] := fun e => hne (by rw [e]; rfl)
      obtain ⟨r0, hr0⟩ := List.exists_mem_of_ne_nil runs hr
      obtain ⟨d, hd, rfl⟩ := List.mem_map.1 (h _ (List.mem_map.2 ⟨r0, hr0, rfl⟩))
      rw [mem_ints]
      unfold allD
      rw [List.mem_filter, List.mem_range]
      refine ⟨rowsD_lt hd, ?_⟩
      unfold allB
      rw [Bool.and_eq_true, decide_eq_true_eq, decide_eq_true_eq]
      exact ⟨hr, inC_all.2 fun r hm => mem_ints.1 (h _ (List.mem_map.2 ⟨r, hm, rfl⟩))⟩
    · intro h
      obtain ⟨d, hd, rfl⟩ := List.mem_map.1 h
      unfold allD at hd
      rw [List.mem_filter] at hd
      have h2 := hd.2
      unfold allB at h2
      rw [Bool.and_eq_true, decide_eq_true_eq, decide_eq_true_eq] at h2
      refine ⟨fun e => h2.1 (List.map_eq_nil_iff.1 e), fun l hl => ?_⟩
      obtain ⟨r, hr, rfl⟩ := List.mem_map.1 hl
      exact mem_ints.2 (inC_all.1 h2.2 r hr)
theorem len_le : ∀ {l m : List Nat}, l.Nodup → (∀ x ∈ l, x ∈ m) → l.length ≤ m.length
  | [], _, _, _ => Nat.zero_le _
  | a :: l, m, hn, h => by
    obtain ⟨h1, h2⟩ := List.nodup_cons.1 hn
    have ha := h a (by simp)
    have h3 := len_le (l := l) (m := m.erase a) h2 fun x hx => (List.mem_erase_of_ne (fun e => h1 (by rw [← e]; exact hx))).2 (h x (by simp [hx]))
    rw [List.length_erase_of_mem ha] at h3
    have := List.length_pos_of_mem ha
    simp only [List.length_cons]
    omega
theorem allD_len {docs runs : List (List UInt8)} {r : List UInt8} (hr : r ∈ runs) : (allD docs runs).length ≤ (rowsD docs r).length := by
  have hsub : ∀ d ∈ allD docs runs, d ∈ rowsD docs r := fun d hd => by
    unfold allD at hd
    rw [List.mem_filter] at hd
    have h2 := hd.2
    unfold allB at h2
    rw [Bool.and_eq_true, decide_eq_true_eq, decide_eq_true_eq] at h2
    exact inC_all.1 h2.2 r hr
  exact len_le ((List.pairwise_lt_range.filter _).imp fun h => Nat.ne_of_lt h) hsub
theorem allD_none (docs : List (List UInt8)) : allD docs [] = [] := by
  unfold allD
  exact List.filter_eq_nil_iff.2 fun d _ => by simp [allB]
end NearM
