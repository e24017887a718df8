/-
  The plain law of near: what the postings tell is where runs stand; how the statement counts it.
-/
import Derived.Test.YtamdejidkgnaeaaNearMk
import Derived.Test.YtamdejidkgnaeaaNearMeet
import Derived.Test.YtamdejidkgnaeaaNearText
namespace Go.Proofs.Ytamdejidkgnaeaa
open Go.RowKit NearM GramM
set_option linter.unusedVariables false
theorem gramsT_eq (b : List UInt8) : gramsT b = (grams b).map fun g => (grS g).data.toList := by
  refine List.ext_getElem? fun k => ?_
  rw [List.getElem?_map, ← gAt_gram (docs := [b]) (i := 0) (k := k) rfl]
  unfold gramsT
  rw [List.getElem?_map]
  by_cases hk : k < b.length - 2
  · rw [List.getElem?_range hk, gAt_of (docs := [b]) (p := (0, k)) (b := b) rfl (by show k + 3 ≤ _; omega)]
    rfl
  · rw [List.getElem?_eq_none (by simpa using hk)]
    cases h : gAt [b] (0, k) with
    | none => rfl
    | some x =>
      obtain ⟨b', hb', h1, -⟩ := gAt_some h
      have e : b = b' := by
        have h2 : ([b] : List (List UInt8))[0]? = some b' := hb'
        injection h2
      subst e
      have h1 : k + 3 ≤ b.length := h1
      omega
/-- postings that are those of documents -/
structure PsOf (docs : List (List UInt8)) (ps : List (ByteArray × List Pl)) : Prop where
  nd : (ps.map (·.1)).Nodup
  pl : ∀ p ∈ ps, p.2 = plOf docs p.1.data.toList
  all : ∀ g, plOf docs g ≠ [] → ∃ p ∈ ps, p.1.data.toList = g
theorem PsOf.find {docs : List (List UInt8)} {ps : List (ByteArray × List Pl)} (h : PsOf docs ps) (s : ByteArray) : findP ps s = plOf docs s.data.toList := by
  by_cases he : ∃ p ∈ ps, p.1 = s
  · obtain ⟨p, hp, rfl⟩ := he
    rw [findP_some h.nd hp rfl, h.pl p hp]
  · rw [findP_none fun p hp e => he ⟨p, hp, e⟩]
    cases hq : plOf docs s.data.toList with
    | nil => rfl
    | cons a l =>
      obtain ⟨p, hp, e⟩ := h.all s.data.toList (by rw [hq]; simp)
      refine absurd ⟨p, hp, ?_⟩ he
      cases hh : p.1
      cases s
      rw [hh] at e
      congr 1
      exact Array.toList_inj.1 e
theorem nearF_pl (docs : List (List UInt8)) (gs : List (List UInt8)) : nearF (gs.map (plOf docs)) = nearP docs gs := by
  cases gs with
  | nil => rfl
  | cons g r =>
    show (plOf docs g).filter (mayB (r.map (plOf docs))) = (plOf docs g).filter _
    congr 1
    funext x
    unfold mayB
    rw [List.zipIdx_map, List.all_map]
    rfl
theorem PsOf.near {docs : List (List UInt8)} {ps : List (ByteArray × List Pl)} (h : PsOf docs ps) (s : ByteArray) : nearS ps s = nearP docs (gramsT s.data.toList) := by
  rw [← nearF_pl, gramsT_eq, List.map_map]
  unfold nearS
  congr 1
  refine List.map_congr_left fun g _ => ?_
  exact h.find (grS g)
theorem PsOf.row {docs : List (List UInt8)} {ps : List (ByteArray × List Pl)} (h : PsOf docs ps) (s : ByteArray) : rowI ps s = (rowsD docs s.data.toList).map fun d : Nat => (d : Int) := by
  unfold rowI rowsD
  rw [h.near]
theorem PsOf.meet {docs : List (List UInt8)} {ps : List (ByteArray × List Pl)} (h : PsOf docs ps) (rs : List ByteArray) {m : Nat} (hm : ∀ s ∈ rs, (rowI ps s).length ≤ m) :
    (CurM.meetL (rs.map (rowI ps))).take m = (allD docs (rs.map fun s => s.data.toList)).map fun d : Nat => (d : Int) := by
  have e : rs.map (rowI ps) = (rs.map fun s => s.data.toList).map fun r => (rowsD docs r).map fun d : Nat => (d : Int) := by
    rw [List.map_map]
    exact List.map_congr_left fun s _ => h.row s
  rw [e, all_meet]
  refine List.take_of_length_le ?_
  rw [List.length_map]
  cases rs with
  | nil => rw [List.map_nil, allD_none]; exact Nat.zero_le _
  | cons s rs =>
    refine Nat.le_trans (allD_len (r := s.data.toList) (by simp)) ?_
    have := hm s (by simp)
    rw [h.row, List.length_map] at this
    exact this
/-- a run of three bytes at least stands at a place -/
def stB (docs : List (List UInt8)) (run : List UInt8) (p : Pl) : Bool := decide (3 ≤ run.length) && stands docs run p
theorem near_st (docs : List (List UInt8)) (run : List UInt8) : nearP docs (gramsT run) = (allPl 0 docs).filter (stB docs run) := by
  by_cases h : 3 ≤ run.length
  · rw [near_exact h]
    congr 1
    funext p
    simp [stB, h]
  · rw [near_short (by omega)]
    symm
    rw [List.filter_eq_nil_iff]
    intro p _
    simp [stB, h]
theorem stB_iff {docs : List (List UInt8)} {run : List UInt8} {d a : Nat} {b : List UInt8} (hb : docs[d]? = some b) : stB docs run (d, a) = true ↔ 3 ≤ run.length ∧ a + run.length ≤ b.length ∧ (b.drop a).take run.length = run := by
  unfold stB stands
  simp only [hb, Bool.and_eq_true, decide_eq_true_eq]
/-- how many places stand among those gone through -/
def cntP (docs : List (List UInt8)) (run : List UInt8) (d a : Nat) : Nat := ((preP docs d a).filter (stB docs run)).length
theorem cntP_zero (docs : List (List UInt8)) (run : List UInt8) : cntP docs run 0 0 = 0 := by
  unfold cntP preP
  simp [allPl, rowPl]
theorem cntP_yes {docs : List (List UInt8)} {run : List UInt8} {d a : Nat} (h : stB docs run (d, a) = true) : cntP docs run d (a + 1) = cntP docs run d a + 1 := by
  unfold cntP
  rw [preP_step, List.filter_append, List.filter_cons_of_pos h, List.length_append]
  rfl
theorem cntP_no {docs : List (List UInt8)} {run : List UInt8} {d a : Nat} (h : stB docs run (d, a) = false) : cntP docs run d (a + 1) = cntP docs run d a := by
  unfold cntP
  rw [preP_step, List.filter_append, List.filter_cons_of_neg (by rw [h]; simp), List.filter_nil, List.append_nil]
theorem cntP_all (docs : List (List UInt8)) (run : List UInt8) : cntP docs run docs.length 0 = (nearP docs (gramsT run)).length := by
  unfold cntP
  rw [preP_all, near_st]
theorem allPl_app : ∀ (l m : List (List UInt8)) (d : Nat), allPl d (l ++ m) = allPl d l ++ allPl (d + l.length) m
  | [], m, d => by simp [allPl]
  | a :: l, m, d => by
    rw [List.cons_append, allPl, allPl_app l m (d + 1), allPl, List.append_assoc, List.length_cons]
    congr 3
    omega
theorem row_split {d a n : Nat} (h : a < n) : ∃ suf, rowPl d n = rowPl d a ++ (d, a) :: suf := by
  induction n with
  | zero => omega
  | succ n ih =>
    rw [rowPl_snoc]
    rcases Nat.lt_or_ge a n with h1 | h1
    · obtain ⟨suf, e⟩ := ih h1
      exact ⟨suf ++ [(d, n)], by rw [e]; simp⟩
    · obtain rfl : a = n := by omega
      exact ⟨[], rfl⟩
theorem all_split {docs : List (List UInt8)} {d a : Nat} {b : List UInt8} (hb : docs[d]? = some b) (ha : a < b.length) : ∃ suf, allPl 0 docs = preP docs d a ++ (d, a) :: suf := by
  have hl := (List.getElem?_eq_some_iff.1 hb).1
  have e : docs = docs.take d ++ b :: docs.drop (d + 1) := by
    have h2 : docs.drop d = b :: docs.drop (d + 1) := by
      rw [List.drop_eq_getElem_cons hl]
      congr 1
      exact (List.getElem?_eq_some_iff.1 hb).2
    rw [← h2, List.take_append_drop]
  obtain ⟨suf, hs⟩ := row_split (d := d) ha
  refine ⟨suf ++ allPl (d + 1) (docs.drop (d + 1)), ?_⟩
  have e2 : allPl 0 docs = allPl 0 (docs.take d) ++ allPl d (b :: docs.drop (d + 1)) := by
    have h3 := allPl_app (docs.take d) (b :: docs.drop (d + 1)) 0
    rw [← e, List.length_take, Nat.min_eq_left (Nat.le_of_lt hl), Nat.zero_add] at h3
    exact h3
  rw [e2, allPl, hs]
  unfold preP
  simp
theorem near_here {docs : List (List UInt8)} {run : List UInt8} {d a : Nat} {b : List UInt8} (hb : docs[d]? = some b) (h : stB docs run (d, a) = true) : (nearP docs (gramsT run))[cntP docs run d a]? = some (d, a) := by
  obtain ⟨h1, h2, -⟩ := (stB_iff hb).1 h
  obtain ⟨suf, e⟩ := all_split hb (a := a) (by omega)
  rw [near_st, e]
  exact filter_at h
/-- no place of a row up to here stands -/
def fstB (docs : List (List UInt8)) (run : List UInt8) (d a : Nat) : Bool := (rowPl d a).all fun p => !stB docs run p
theorem fstB_zero (docs : List (List UInt8)) (run : List UInt8) (d : Nat) : fstB docs run d 0 = true := rfl
theorem fstB_yes {docs : List (List UInt8)} {run : List UInt8} {d a : Nat} (h : stB docs run (d, a) = true) : fstB docs run d (a + 1) = false := by
  unfold fstB
  rw [rowPl_snoc, List.all_append]
  simp [h]
theorem fstB_no {docs : List (List UInt8)} {run : List UInt8} {d a : Nat} (h : stB docs run (d, a) = false) : fstB docs run d (a + 1) = fstB docs run d a := by
  unfold fstB
  rw [rowPl_snoc, List.all_append]
  simp [h]
/-- the end of a row: what stands there stands ahead of here -/
theorem row_end {docs : List (List UInt8)} {run : List UInt8} {d a : Nat} {b : List UInt8} (hb : docs[d]? = some b) (hno : ∀ x, a ≤ x → stB docs run (d, x) = false) :
    cntP docs run (d + 1) 0 = cntP docs run d a ∧ (fstB docs run d a = true ↔ d ∉ rowsD docs run) := by
  constructor
  · show ((preP docs (d + 1) 0).filter _).length = _
    rw [preP_next hb]
    rcases Nat.lt_or_ge a b.length with h | h
    · have : ∀ n, cntP docs run d (a + n) = cntP docs run d a := fun n => by
        induction n with
        | zero => rfl
        | succ n ih => rw [← Nat.add_assoc, cntP_no (hno _ (by omega)), ih]
      have h2 := this (b.length - a)
      rw [show a + (b.length - a) = b.length by omega] at h2
      exact h2
    · have : ∀ n, cntP docs run d (b.length + n) = cntP docs run d b.length := fun n => by
        induction n with
        | zero => rfl
        | succ n ih =>
          rw [← Nat.add_assoc, cntP_no ?_, ih]
          cases hs : stB docs run (d, b.length + n) with
          | false => rfl
          | true =>
            have := (stB_iff hb).1 hs
            omega
      have h2 := this (a - b.length)
      rw [show b.length + (a - b.length) = a by omega] at h2
      exact h2.symm
  · rw [mem_rowsD]
    unfold fstB
    rw [List.all_eq_true]
    constructor
    · rintro h ⟨p, hp, hd⟩
      rw [near_st] at hp
      have hs := (List.mem_filter.1 hp).2
      obtain ⟨pd, pa⟩ := p
      have hd : pd = d := hd
      subst hd
      rcases Nat.lt_or_ge pa a with h1 | h1
      · have h2 := h (pd, pa) (mem_row.2 ⟨rfl, h1⟩)
        rw [hs] at h2
        cases h2
      · rw [hno pa h1] at hs
        cases hs
    · intro h p hp
      obtain ⟨h1, h2⟩ := mem_row.1 hp
      obtain ⟨pd, pa⟩ := p
      have h1 : pd = d := h1
      subst h1
      cases hs : stB docs run (pd, pa) with
      | false => rfl
      | true =>
        have h3 := near_here hb hs
        exact absurd ⟨_, List.mem_of_getElem? h3, rfl⟩ h
def totD (docs : List (List UInt8)) : Nat := (docs.map List.length).sum
theorem allPl_len : ∀ (docs : List (List UInt8)) (d : Nat), (allPl d docs).length = totD docs
  | [], d => rfl
  | b :: l, d => by
    rw [allPl, List.length_append, allPl_len l (d + 1)]
    simp [totD, rowPl]
theorem totD_snoc {docs : List (List UInt8)} {k : Nat} {b : List UInt8} (h : docs[k]? = some b) : totD (docs.take (k + 1)) = totD (docs.take k) + b.length := by
  unfold totD
  rw [List.take_add_one, h]
  simp
theorem totD_le (docs : List (List UInt8)) (k : Nat) : totD (docs.take k) ≤ totD docs := by
  have h : totD docs = totD (docs.take k) + totD (docs.drop k) := by
    have e := List.take_append_drop k docs
    unfold totD
    rw [← List.sum_append, ← List.map_append, e]
  omega
theorem preP_le {docs : List (List UInt8)} {i k : Nat} (h : k = 0 ∨ ∃ b, docs[i]? = some b ∧ k ≤ b.length) : (preP docs i k).length ≤ totD docs := by
  have e : (preP docs i k).length = totD (docs.take i) + k := by
    unfold preP
    rw [List.length_append, allPl_len]
    simp [rowPl]
  rw [e]
  rcases h with rfl | ⟨b, hb, hk⟩
  · exact totD_le docs i
  · have h1 := totD_snoc hb
    have h2 := totD_le docs (i + 1)
    omega
theorem plOf_len (docs : List (List UInt8)) (g : List UInt8) : (plOf docs g).length ≤ totD docs := by
  rw [← allPl_len docs 0]
  exact List.length_filter_le _ _
theorem mem_totD {docs : List (List UInt8)} {b : List UInt8} (h : b ∈ docs) : b.length ≤ totD docs := by
  obtain ⟨i, hi⟩ := List.getElem?_of_mem h
  have h1 := totD_snoc hi
  have h2 := totD_le docs (i + 1)
  omega
theorem plOf_lt {docs : List (List UInt8)} {g : List UInt8} {p : Pl} (h : p ∈ plOf docs g) : p.1 ≤ docs.length ∧ p.2 ≤ totD docs := by
  obtain ⟨-, b, hb, hl⟩ := mem_all.1 (List.mem_filter.1 h).1
  have hb : docs[p.1]? = some b := by simpa using hb
  have h1 := (List.getElem?_eq_some_iff.1 hb).1
  have h2 := mem_totD (List.mem_of_getElem? hb)
  omega
theorem ofNat_self (x : UInt8) : UInt8.ofNat (x.toNat : Int).toNat = x := (congrArg UInt8.ofNat (Int.toNat_natCast x.toNat)).trans UInt8.ofNat_toNat
/-- some bytes of a row as a text -/
def cutS (b : List UInt8) (a z : Nat) : ByteArray := ⟨((b.drop a).take z).toArray⟩
theorem convN {W : World} {B p off n : Nat} {b : List UInt8} (hb : BytesAt W B (some ⟨p, off, none⟩) n b) {a z : Nat} (hz : a + z ≤ n) (c : Nat) : (convert 26 9 (.slice (some ⟨p, off + a, none⟩) z c)).run Try.prog W = .ok (.string (cutS b a z)) W := by
  have hl := hb.len
  have h := run_convert_bytes_arg (P := Try.prog) W 26 5 Try.underlying26 Try.underlying5 p (off + a) z c (((b.drop a).take z).map fun x => (x.toNat : Int)) (by rw [List.length_map, List.length_take, List.length_drop]; omega) (fun i hi => by
    obtain ⟨p', o', e, -, hc⟩ := hb.at_ (by omega)
    injection e with e
    injection e with e1 e2
    subst e1 e2
    obtain ⟨x, hx⟩ : ∃ x, b[a + i]? = some x := ⟨_, List.getElem?_eq_getElem (by omega)⟩
    have h2 : ((b.drop a).take z)[i]? = some x := by rw [List.getElem?_take, if_pos hi, List.getElem?_drop, hx]
    rw [Nat.add_assoc, hc (a + i) x hx]
    rw [List.getD_eq_getElem?_getD, List.getElem?_map, h2]
    rfl) 9 Try.underlying9
  rw [h]
  have e : strOfNums (((b.drop a).take z).map fun x => (x.toNat : Int)) = cutS b a z := by
    unfold strOfNums cutS
    rw [List.map_map]
    have h3 : ∀ l : List UInt8, l.map ((fun n : Int => UInt8.ofNat n.toNat) ∘ fun x => (x.toNat : Int)) = l := fun l => (List.map_congr_left fun x _ => ofNat_self x).trans (List.map_id' l)
    rw [h3]
  rw [e]
theorem cutS_eq {b : List UInt8} {a : Nat} {s : ByteArray} : cutS b a s.size = s ↔ (b.drop a).take s.data.toList.length = s.data.toList := by
  have e : s.data.toList.length = s.size := Array.length_toList
  rw [e]
  unfold cutS
  constructor
  · intro h
    have h2 := congrArg (fun x : ByteArray => x.data.toList) h
    simpa using h2
  · intro h
    rw [h]
end Go.Proofs.Ytamdejidkgnaeaa
