/-
  Plain mathematics of mudlarklaw02's WireBack: what a right thing is as bytes, and that it is got of them.
-/
import Derived.Test.YtcjbeaohmgfgoaaPuts
namespace Go.Proofs.Ytcjbeaohmgfgoaa
open Go.RowKit WireM

def natRow (r : List Int) : List Nat := r.map Int.toNat
/-- the bytes of a right thing -/
def encThing (t : ThingM) : List UInt8 :=
  if pickI t.kind 4 = 0 then enc t.n.toNat else if pickI t.kind 4 = 1 then fourB (u32of t.n) else if pickI t.kind 4 = 2 then enc t.b.length ++ t.b else enc t.row.length ++ rb 0 (natRow t.row)
def encThings : List ThingM → List UInt8
  | [] => []
  | t :: r => encThing t ++ encThings r
theorem encThings_append (a b : List ThingM) : encThings (a ++ b) = encThings a ++ encThings b := by
  induction a with
  | nil => rfl
  | cons x a ih => simp only [List.cons_append, encThings, ih, List.append_assoc]
theorem encThings_succ {ts : List ThingM} {k : Nat} {t : ThingM} (h : ts[k]? = some t) : encThings (ts.take (k + 1)) = encThings (ts.take k) ++ encThing t := by
  rw [List.take_add_one, h, encThings_append]
  simp [encThings]
theorem encThings_drop {ts : List ThingM} {k : Nat} {t : ThingM} (h : ts[k]? = some t) : encThings (ts.drop k) = encThing t ++ encThings (ts.drop (k + 1)) := by
  rw [drop_at h, encThings]

theorem rowRight_rises : ∀ (r : List Int) (last : Int), -1 ≤ last → rowRight last r = true → Rises (last + 1).toNat (natRow r) ∧ (∀ x ∈ r, 0 ≤ x ∧ x ≤ 1099511627776)
  | [], _, _, _ => ⟨trivial, fun _ h => by cases h⟩
  | x :: r, last, h0, h => by
    rw [rowRight, Bool.and_eq_true, Bool.and_eq_true, decide_eq_true_eq, decide_eq_true_eq] at h
    obtain ⟨⟨h1, h2⟩, h3⟩ := h
    obtain ⟨h4, h5⟩ := rowRight_rises r x (by omega) h3
    have e : (x + 1).toNat = x.toNat + 1 := by omega
    rw [e] at h4
    refine ⟨⟨by omega, by simp only [maxNum]; omega, h4⟩, fun y hy => ?_⟩
    rcases List.mem_cons.1 hy with rfl | hy
    · exact ⟨by omega, h2⟩
    · exact h5 y hy
theorem right_row {t : ThingM} (h : rightB t = true) : Rises 0 (natRow t.row) ∧ ∀ x ∈ t.row, 0 ≤ x ∧ x ≤ 1099511627776 := by
  rw [rightB, Bool.and_eq_true] at h
  exact rowRight_rises t.row (-1) (by omega) h.1
theorem right_n {t : ThingM} (h : rightB t = true) : 0 ≤ t.n ∧ t.n ≤ 1099511627776 := by
  rw [rightB, Bool.and_eq_true, Bool.and_eq_true, decide_eq_true_eq, decide_eq_true_eq] at h
  exact h.2
theorem natRow_back {r : List Int} (h : ∀ x ∈ r, 0 ≤ x ∧ x ≤ 1099511627776) : (natRow r).map (fun n : Nat => (n : Int)) = r := by
  rw [natRow, List.map_map]
  conv => rhs; rw [← List.map_id r]
  refine List.map_congr_left fun x hx => ?_
  have := (h x hx).1
  simp only [Function.comp, id]
  omega
theorem natRow_vals {t : ThingM} (h : rightB t = true) : (natRow t.row).map (fun n : Nat => Value.int .i64 (n : Int)) = t.row.map i64v := by
  have e := natRow_back (right_row h).2
  rw [← e, List.map_map, e]
  rfl
theorem natRow_length (r : List Int) : (natRow r).length = r.length := by simp [natRow]

theorem putThing_right {t : ThingM} (h : rightB t = true) (hs : thingSize t ≤ 4000) (l : List UInt8) : putThing t (some l) = some (l ++ encThing t) := by
  obtain ⟨n1, n2⟩ := right_n h
  obtain ⟨r1, r2⟩ := right_row h
  unfold thingSize at hs
  unfold putThing encThing
  split
  · rw [putNum, if_pos ⟨n1, by simp only [maxNum]; omega⟩]
  · split
    · rfl
    · split
      · rw [putText, putNum, if_pos ⟨by omega, by simp only [maxNum]; omega⟩, putBytes, Int.toNat_natCast, List.append_assoc]
      · have := putRising_rb (natRow t.row) l r1 (by rw [natRow_length]; simp only [maxNum]; omega)
        rw [natRow_back r2, natRow_length] at this
        exact this
section
variable {t : ThingM} (h : rightB t = true) (hs : thingSize t ≤ 4000) (l : List UInt8)
include h
theorem got_num (hk : pickI t.kind 4 = 0) : num t.n (some (encThing t ++ l)) = (t.n.toNat, some l) := by
  obtain ⟨n1, n2⟩ := right_n h
  rw [encThing, if_pos hk]
  exact num_enc t.n.toNat t.n l (by simp only [maxNum]; omega) (by omega)
omit h in
theorem got_fixed (hk : pickI t.kind 4 = 1) : fixed (some (encThing t ++ l)) = ((u32of t.n).toNat, some l) := by
  rw [encThing, if_neg (by omega), if_pos hk]
  exact fixed_put _ (u32of t.n).isLt l
omit h in
include hs in
theorem got_text (hk : pickI t.kind 4 = 2) : text t.b.length (some (encThing t ++ l)) = (t.b, some l) := by
  unfold thingSize at hs
  rw [encThing, if_neg (by omega), if_neg (by omega), if_pos hk]
  exact text_put t.b _ l (by simp only [maxNum]; omega) (Int.le_refl _)
include hs in
theorem got_rising (hk : pickI t.kind 4 = 3) : rising t.row.length 1099511627776 (some (encThing t ++ l)) = (natRow t.row, some l) := by
  unfold thingSize at hs
  obtain ⟨r1, r2⟩ := right_row h
  rw [encThing, if_neg (by omega), if_neg (by omega), if_neg (by omega), ← natRow_length]
  refine rising_rb (natRow t.row) _ _ l r1 (by rw [natRow_length]; simp only [maxNum]; omega) (Int.le_refl _) fun n hn => ?_
  rw [natRow, List.mem_map] at hn
  obtain ⟨x, hx, rfl⟩ := hn
  have := r2 x hx
  omega
end
end Go.Proofs.Ytcjbeaohmgfgoaa
