/-
  From the form's own reading of a struct to its fields; slices of ints. No program is in sight.
-/
import Derived.Test.YtbbjeokecgnfpaaRead
namespace Go.Proofs.Ytbbjeokecgnfpaa
open Go.RowKit Go.ChangeShapes Go.WideShapes

section
variable {H : Type} {enc : TypeId × Value → H} {P : Program} {w : World}

theorem mem_weightsEach : ∀ {ts : List TypeId} {ds : List (DataW H)} {i : Nat} {t : TypeId} {d : DataW H} {k : Nat}, ts[i]? = some t → ds[i]? = some d → k ∈ d.weights P t → k ∈ DataW.weightsEach P ts ds
  | _ :: _, _ :: _, 0, _, _, _, h1, h2, hk => by
    cases h1
    cases h2
    rw [DataW.weightsEach, List.mem_append]
    exact Or.inl hk
  | _ :: ts, _ :: ds, i + 1, _, _, _, h1, h2, hk => by
    rw [DataW.weightsEach, List.mem_append]
    exact Or.inr (mem_weightsEach (i := i) (by simpa using h1) (by simpa using h2) hk)
  | [], _, _, _, _, _, h1, _, _ => by simp at h1
  | _ :: _, [], _, _, _, _, _, h2, _ => by simp at h2
/-- a struct's fields read, each within the form's reach -/
theorem open_fields {t : TypeId} {fs : Array Field} (ht : P.underlying t = some (.struct fs)) {m : Nat} {cs : List Value} {y : DataW H × List MemPlace}
    (h : DataW.trod enc P w 0 (fun _ => true) true m t cs = some y) (hz : Within P t y.1) :
    cs.length = P.cellsOf t ∧ ∀ (i : Nat) (f : Field), fs[i]? = some f → ∃ m' y', DataW.trod enc P w 0 (fun _ => true) true m' f.type ((cs.drop f.offset).take (P.cellsOf f.type)) = some y' ∧ Within P f.type y'.1 := by
  obtain ⟨xs, n, _, rfl, hl, hlen, hf⟩ := DataW.trod_struct ht h
  refine ⟨hl, fun i f hi => ?_⟩
  have h1 := hf i f hi
  have hlt : i < xs.length := by
    rw [hlen]
    exact (Array.getElem?_eq_some_iff.1 hi).1
  rw [List.getElem?_eq_getElem hlt] at h1
  refine ⟨n, xs[i], h1, fun k hk => hz k ?_⟩
  show k ∈ DataW.weights P t (.agg (xs.map (·.1)))
  rw [DataW.weights, ht]
  exact mem_weightsEach (i := i) (t := f.type) (d := xs[i].1) (by simp [hi]) (by simp [hlt]) hk

/-- the fields of a struct's type: what each is, where it lies -/
def fieldsOf (P : Program) (t : TypeId) : Option (List (TypeId × Nat)) := (P.underlying t).bind fun d => match d with
  | .struct fs => some (fs.toList.map fun f => (f.type, f.offset))
  | _ => none
theorem open_fields_of {t : TypeId} {L : List (TypeId × Nat)} (ht : fieldsOf P t = some L) {m : Nat} {cs : List Value} {y : DataW H × List MemPlace}
    (h : DataW.trod enc P w 0 (fun _ => true) true m t cs = some y) (hz : Within P t y.1) :
    cs.length = P.cellsOf t ∧ ∀ (i : Nat) (e : TypeId) (off : Nat), L[i]? = some (e, off) → ∃ m' y', DataW.trod enc P w 0 (fun _ => true) true m' e ((cs.drop off).take (P.cellsOf e)) = some y' ∧ Within P e y'.1 := by
  unfold fieldsOf at ht
  cases hu : P.underlying t with
  | none => rw [hu] at ht; cases ht
  | some d =>
    rw [hu] at ht
    simp only [Option.bind_some] at ht
    split at ht
    · rename_i fs
      cases ht
      obtain ⟨h1, h2⟩ := open_fields hu h hz
      refine ⟨h1, fun i e off hi => ?_⟩
      rw [List.getElem?_map, Option.map_eq_some_iff] at hi
      obtain ⟨f, hf, he⟩ := hi
      cases he
      exact h2 i f (by simpa using hf)
    · cases ht

theorem SliceBy.mono {B s n : Nat} {A : Option Addr} {α : Type} {R R' : List Value → α → Prop} {l : List α} (h : SliceBy w B s A n R l) (hR : ∀ cs a, R cs a → R' cs a) : SliceBy w B s A n R' l :=
  ⟨h.1, fun hn => by
    obtain ⟨b, off, e, hb, hc⟩ := h.2 hn
    exact ⟨b, off, e, hb, fun j a hj => by
      obtain ⟨cs, h1, h2, h3⟩ := hc j a hj
      exact ⟨cs, h1, hR _ _ h2, h3⟩⟩⟩
/-- it stays while old blocks stay -/
theorem SliceBy.keep {w' : World} {B s n : Nat} {A : Option Addr} {α : Type} {R R' : List Value → α → Prop} {l : List α} (h : SliceBy w B s A n R l) (hk : ∀ p : Addr, p.block < B → w'.cell? p = w.cell? p) (hR : ∀ cs a, R cs a → R' cs a) : SliceBy w' B s A n R' l :=
  ⟨h.1, fun hn => by
    obtain ⟨b, off, e, hb, hc⟩ := h.2 hn
    exact ⟨b, off, e, hb, fun j a hj => by
      obtain ⟨cs, h1, h2, h3⟩ := hc j a hj
      exact ⟨cs, h1, hR _ _ h2, fun i u hu => (hk _ hb).trans (h3 i u hu)⟩⟩⟩
theorem intsAt_of {B : Nat} {A : Option Addr} {n : Nat} {l : List Int} (h : SliceBy w B 1 A n (fun cs (x : Int) => cs = [.int .i64 x] ∧ -9223372036854775808 ≤ x ∧ x ≤ 9223372036854775807) l) : IntsAt w B A n l ∧ ∀ x ∈ l, -9223372036854775808 ≤ x ∧ x ≤ 9223372036854775807 := by
  refine ⟨⟨by simpa using h.1, fun hn => ?_⟩, fun x hx => ?_⟩
  · obtain ⟨b, off, e, hb, hc⟩ := h.2 hn
    refine ⟨b, off, e, hb, fun j u hu => ?_⟩
    rw [List.getElem?_map] at hu
    cases hx : l[j]? with
    | none => rw [hx] at hu; cases hu
    | some x =>
      rw [hx] at hu
      cases hu
      obtain ⟨cs, _, ⟨rfl, _⟩, hcs⟩ := hc j x hx
      have := hcs 0 _ rfl
      simpa [i64v] using this
  · obtain ⟨j, hj⟩ := List.getElem?_of_mem hx
    have hn : 0 < n := by
      have h1 := (List.getElem?_eq_some_iff.1 hj).1
      have h2 := h.1
      omega
    obtain ⟨b, off, e, hb, hc⟩ := h.2 hn
    obtain ⟨cs, _, ⟨_, h2⟩, _⟩ := hc j x hj
    exact h2
theorem list5 {α : Type} {l : List α} (h : l.length = 5) : ∃ a b c d e, l = [a, b, c, d, e] := by
  match l, h with
  | [a, b, c, d, e], _ => exact ⟨a, b, c, d, e, rfl⟩
theorem list2 {α : Type} {l : List α} (h : l.length = 2) : ∃ a b, l = [a, b] := by
  match l, h with
  | [a, b], _ => exact ⟨a, b, rfl⟩
end
end Go.Proofs.Ytbbjeokecgnfpaa
