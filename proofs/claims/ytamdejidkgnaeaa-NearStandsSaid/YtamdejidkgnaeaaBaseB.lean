/-
  From the form's own reading of an argument to the words of XData: integers, bools, bytes, slices of whatever element. No program is in sight.
  From the form's own reading of a struct to its fields; slices of ints. No program is in sight.
  The parts that mudlarklaw03's statements are about: what an argument of type []api.Part reads as.
  The walk of mudlarkkit's PartsOf: how much parts are, as far as it is asked.
-/
import Derived.Deep.Slices
import Derived.ProofKit
import Derived.OpenShut
import Derived.Test.YtamdejidkgnaeaaBaseA
import Derived.Test.YtamdejidkgnaeaaProg
import Derived.WalkKit
import Derived.Deep.MidRow
import Derived.Outline
import Derived.Lib.Hide
namespace Go.Proofs.Ytamdejidkgnaeaa
open Go.RowKit Go.ChangeShapes Go.WideShapes

section
variable {H : Type} {enc : TypeId × Value → H} {P : Program} {w : World} {sp : Nat → Bool}

/-- a datum lies within the form's reach -/
def Within (P : Program) (t : TypeId) (d : DataW H) : Prop := ∀ k ∈ d.weights P t, k ≤ reachBytes
/-- a type reads by a word -/
def ReadsBy (enc : TypeId × Value → H) (P : Program) (w : World) (t : TypeId) {α : Type} (R : List Value → α → Prop) : Prop :=
  ∀ (m : Nat) (cs : List Value) (y : DataW H × List MemPlace), DataW.trod enc P w 0 (fun _ => true) true m t cs = some y → Within P t y.1 → ∃ a, R cs a

theorem mem_weightsAll {e : TypeId} {d : DataW H} {k : Nat} : ∀ {l : List (DataW H)}, d ∈ l → k ∈ d.weights P e → k ∈ DataW.weightsAll P e l
  | a :: r, h, hk => by
    rw [DataW.weightsAll, List.mem_append]
    rcases List.mem_cons.1 h with rfl | h
    · exact Or.inl hk
    · exact Or.inr (mem_weightsAll h hk)
theorem within_slice {t e : TypeId} (ht : P.underlying t = some (.slice e)) {elems spare : List (DataW H)} (h : Within P t (.slice elems spare)) :
    (elems.length + spare.length) * P.bytesOf e ≤ reachBytes ∧ ∀ d ∈ elems, Within P e d := by
  unfold Within at h
  rw [DataW.weights, ht] at h
  refine ⟨h _ (by simp), fun d hd k hk => h k ?_⟩
  simp only [List.mem_cons, List.mem_append]
  exact Or.inr (Or.inl (mem_weightsAll hd hk))
theorem within_each {t : TypeId} {ts : List TypeId} {d : DataW H} {r : List (DataW H)} (h : (DataW.weightsEach P (t :: ts) (d :: r)).all (· ≤ reachBytes) = true) : Within P t d ∧ (DataW.weightsEach P ts r).all (· ≤ reachBytes) = true := by
  rw [DataW.weightsEach, List.all_append, Bool.and_eq_true] at h
  exact ⟨fun k hk => by have := List.all_eq_true.1 h.1 k hk; simpa using this, h.2⟩

theorem readsBy_int {t : TypeId} {k : IntKind} (ht : P.underlying t = some (.int k)) : ReadsBy enc P w t (fun cs (x : Int) => cs = [.int k x] ∧ (Lit.int k x).wf = true) := fun m cs y h _ => by
  obtain ⟨x, hx, _, hw⟩ := DataW.trod_int ht h
  exact ⟨x, hx, hw⟩
theorem i64_of_wf {x : Int} (h : (Lit.int .i64 x).wf = true) : -9223372036854775808 ≤ x ∧ x ≤ 9223372036854775807 := by
  have hb : IntKind.i64.min ≤ x ∧ x ≤ IntKind.i64.max := by simpa [Lit.wf] using h
  have e1 : IntKind.i64.min = -9223372036854775808 := by decide
  have e2 : IntKind.i64.max = 9223372036854775807 := by decide
  rw [e1, e2] at hb
  exact hb
theorem readsBy_i64 {t : TypeId} (ht : P.underlying t = some (.int .i64)) : ReadsBy enc P w t (fun cs (x : Int) => cs = [.int .i64 x] ∧ -9223372036854775808 ≤ x ∧ x ≤ 9223372036854775807) := fun m cs y h _ => by
  obtain ⟨x, hx, _, hw⟩ := DataW.trod_int ht h
  exact ⟨x, hx, i64_of_wf hw⟩
theorem u8_of_wf {x : Int} (h : (Lit.int .u8 x).wf = true) : ∃ b : UInt8, x = (b.toNat : Int) := by
  have hb : IntKind.u8.min ≤ x ∧ x ≤ IntKind.u8.max := by simpa [Lit.wf] using h
  have e1 : IntKind.u8.min = 0 := by decide
  have e2 : IntKind.u8.max = 255 := by decide
  rw [e1, e2] at hb
  refine ⟨UInt8.ofNat x.toNat, ?_⟩
  rw [UInt8.toNat_ofNat', Nat.mod_eq_of_lt (by omega)]
  omega
theorem u32_of_wf {x : Int} (h : (Lit.int .u32 x).wf = true) : ∃ b : BitVec 32, x = (b.toNat : Int) := by
  have hb : IntKind.u32.min ≤ x ∧ x ≤ IntKind.u32.max := by simpa [Lit.wf] using h
  have e1 : IntKind.u32.min = 0 := by decide
  have e2 : IntKind.u32.max = 4294967295 := by decide
  rw [e1, e2] at hb
  refine ⟨BitVec.ofNat 32 x.toNat, ?_⟩
  rw [BitVec.toNat_ofNat, Nat.mod_eq_of_lt (by omega)]
  omega
theorem readsBy_u8 {t : TypeId} (ht : P.underlying t = some (.int .u8)) : ReadsBy enc P w t (fun cs (x : UInt8) => cs = [b8 x]) := fun m cs y h _ => by
  obtain ⟨x, hx, _, hw⟩ := DataW.trod_int ht h
  obtain ⟨b, rfl⟩ := u8_of_wf hw
  exact ⟨b, hx⟩
theorem readsBy_bool {t : TypeId} (ht : P.underlying t = some .bool) : ReadsBy enc P w t (fun cs (x : Bool) => cs = [.bool x]) := fun m cs y h _ => by
  obtain ⟨x, hx, _⟩ := DataW.trod_bool ht h
  exact ⟨x, hx⟩

/-- the slice value .slice A n c has the elements l, each of s cells, by the word R -/
def SliceBy (w : World) (B s : Nat) (A : Option Addr) (n : Nat) {α : Type} (R : List Value → α → Prop) (l : List α) : Prop :=
  l.length = n ∧ (0 < n → ∃ b off, A = some ⟨b, off, none⟩ ∧ b < B ∧ ∀ j a, l[j]? = some a → ∃ cs : List Value, cs.length = s ∧ R cs a ∧ ∀ i u, cs[i]? = some u → w.cell? ⟨b, off + j * s + i, none⟩ = some u)

theorem addr_plain {b off : Nat} (j : Nat) : (⟨b, off, none⟩ : Addr).add j = ⟨b, off + j, none⟩ := by unfold Addr.add; split <;> simp_all

theorem readsBy_slice {t e : TypeId} (ht : P.underlying t = some (.slice e)) (s bytes : Nat) (hs : P.cellsOf e = s) (hbt : P.bytesOf e = bytes) (hpos : 0 < s) {α : Type} [Inhabited α] {R : List Value → α → Prop} (hR : ReadsBy enc P w e R) :
    ReadsBy enc P w t (fun cs (l : List α) => ∃ A n c, cs = [.slice A n c] ∧ n ≤ c ∧ c ≤ maxLen ∧ c * bytes ≤ 140737488351232 ∧ SliceBy w w.heap.size s A n R l) := fun m cs y h hz => by
  rcases Deep.open_slice ht h with ⟨rfl, _⟩ | ⟨a, len, cap1, m', n', D, Pl, rfl, _, hl, hm, hmm, hy, hx⟩
  · exact ⟨[], none, 0, 0, rfl, Nat.le_refl _, Nat.zero_le _, by simp, rfl, fun h0 => absurd h0 (by omega)⟩
  have hmm' : cap1 = m' := by simpa using hmm.symm
  subst hmm'
  clear hmm
  rw [hs] at hx
  rw [hy] at hz
  obtain ⟨hz1, hz2⟩ := within_slice ht hz
  rw [hbt] at hz1
  have hreach : reachBytes = 140737488351232 := rfl
  have hz1' : cap1 * bytes ≤ 140737488351232 := by
    rw [hreach] at hz1
    simpa [Nat.add_sub_cancel' hl] using hz1
  have hx' : ∀ i, i < len → ∃ a' : α, ∃ cs' : List Value, w.cells? 0 (a.add (i * s)) s = some cs' ∧ R cs' a' := fun i hi => by
    obtain ⟨cs', h1, h2⟩ := hx i (by omega)
    obtain ⟨a', ha⟩ := hR _ _ _ h2 (hz2 _ (List.mem_map.2 ⟨i, List.mem_range.2 hi, rfl⟩))
    exact ⟨a', cs', h1, ha⟩
  obtain ⟨f, hf⟩ := Deep.choose_lt hx'
  refine ⟨(List.range len).map f, some a, len, cap1, rfl, hl, hm, hz1', by simp, fun h0 => ?_⟩
  obtain ⟨b, off, spot⟩ := a
  obtain ⟨cs0, hc0, _⟩ := hf 0 h0
  obtain ⟨_, hl0, hg0⟩ := World.cells?_some hc0
  have h00 := hg0 0 hpos
  have hsome : ∃ u, cs0[0]? = some u := ⟨_, List.getElem?_eq_getElem (by omega)⟩
  obtain ⟨u0, hu0⟩ := hsome
  rw [hu0] at h00
  have hspot : spot = none := by simpa [Addr.add] using World.cell?_spot h00
  subst hspot
  refine ⟨b, off, rfl, by have := World.block_lt_of_cell? w _ h00; simpa [Addr.add] using this, fun j a' hj => ?_⟩
  rw [List.getElem?_map] at hj
  have hjl : j < len := by
    rcases Nat.lt_or_ge j len with h1 | h1
    · exact h1
    · rw [List.getElem?_eq_none (by simpa using h1)] at hj; cases hj
  rw [List.getElem?_range hjl] at hj
  cases hj
  obtain ⟨cs', h1, h2⟩ := hf j hjl
  obtain ⟨_, hl1, hg1⟩ := World.cells?_some h1
  refine ⟨cs', hl1, h2, fun i u hu => ?_⟩
  have hi : i < s := by rw [← hl1]; exact (List.getElem?_eq_some_iff.1 hu).1
  have := hg1 i hi
  rw [addr_plain, addr_plain, hu] at this
  exact this

theorem bytesAt_of {B : Nat} {A : Option Addr} {n : Nat} {l : List UInt8} (h : SliceBy w B 1 A n (fun cs (x : UInt8) => cs = [b8 x]) l) : BytesAt w B A n l := by
  refine ⟨by simpa using h.1, fun hn => ?_⟩
  obtain ⟨b, off, e, hb, hc⟩ := h.2 hn
  refine ⟨b, off, e, hb, fun j u hu => ?_⟩
  rw [List.getElem?_map] at hu
  cases hx : l[j]? with
  | none => rw [hx] at hu; cases hu
  | some x =>
    rw [hx] at hu
    cases hu
    obtain ⟨cs, _, rfl, hcs⟩ := hc j x hx
    have := hcs 0 _ rfl
    simpa using this
theorem rowsAt_of {B : Nat} {A : Option Addr} {n : Nat} {ls : List (List UInt8)} (h : SliceBy w B 1 A n (fun cs (l : List UInt8) => ∃ A n c, cs = [.slice A n c] ∧ n ≤ c ∧ c ≤ maxLen ∧ c * 1 ≤ 140737488351232 ∧ SliceBy w B 1 A n (fun cs (x : UInt8) => cs = [b8 x]) l) ls) :
    RowsAt w B A n ls ∧ ∀ l ∈ ls, l.length ≤ 140737488351232 := by
  refine ⟨⟨h.1, fun hn => ?_⟩, fun l hl => ?_⟩
  · obtain ⟨b, off, e, hb, hc⟩ := h.2 hn
    refine ⟨b, off, e, hb, fun j l hl => ?_⟩
    obtain ⟨cs, _, ⟨A', n', c', rfl, h1, h2, _, h3⟩, hcs⟩ := hc j l hl
    have := hcs 0 _ rfl
    exact ⟨A', n', c', by simpa using this, h1, h2, bytesAt_of h3⟩
  · obtain ⟨j, hj⟩ := List.getElem?_of_mem hl
    have hn : 0 < n := by
      have := (List.getElem?_eq_some_iff.1 hj).1
      have := h.1
      omega
    obtain ⟨b, off, e, hb, hc⟩ := h.2 hn
    obtain ⟨cs, _, ⟨A', n', c', rfl, h1, h2, h4, h3⟩, hcs⟩ := hc j l hj
    have := h3.1
    omega

/-! an argument's own step: from 'it reads' to the value and the word -/
theorem open_by {t : TypeId} {v : Value} {d : DataW H} {p : List MemPlace} {α : Type} {R : List Value → α → Prop} (hR : ReadsBy enc P w t R) (h : DataW.Trod enc P w 0 (fun _ => true) true t v d p) (hz : Within P t d) : ∃ a, R v.cells.toList a := by
  obtain ⟨m, hm⟩ := h
  exact hR _ _ _ hm hz
theorem open_bytes {t e : TypeId} {A : Option Addr} {n c : Nat} {d : DataW H} {p : List MemPlace} (ht : P.underlying t = some (.slice e)) (he : P.underlying e = some (.int .u8)) (hc : P.cellsOf e = 1) (hb : P.bytesOf e = 1)
    (h : DataW.Trod enc P w 0 (fun _ => true) true t (.slice A n c) d p) (hz : Within P t d) : ∃ l : List UInt8, n ≤ c ∧ c ≤ maxLen ∧ BytesAt w w.heap.size A n l ∧ n ≤ 140737488351232 := by
  obtain ⟨l, A', n', c', e1, h1, h2, h4, h3⟩ := open_by (readsBy_slice ht 1 1 hc hb (by omega) (readsBy_u8 he)) h hz
  simp only [Value.cells, List.cons.injEq, Value.slice.injEq, and_true] at e1
  obtain ⟨rfl, rfl, rfl⟩ := e1
  exact ⟨l, h1, h2, bytesAt_of h3, by omega⟩
theorem open_rows {t e e2 : TypeId} {A : Option Addr} {n c : Nat} {d : DataW H} {p : List MemPlace} (ht : P.underlying t = some (.slice e)) (hc : P.cellsOf e = 1) (hb : P.bytesOf e = 24) (he : P.underlying e = some (.slice e2)) (he2 : P.underlying e2 = some (.int .u8)) (hc2 : P.cellsOf e2 = 1) (hb2 : P.bytesOf e2 = 1)
    (h : DataW.Trod enc P w 0 (fun _ => true) true t (.slice A n c) d p) (hz : Within P t d) : ∃ ls : List (List UInt8), n ≤ c ∧ c ≤ maxLen ∧ RowsAt w w.heap.size A n ls ∧ n ≤ 140737488351232 ∧ ∀ l ∈ ls, l.length ≤ 140737488351232 := by
  obtain ⟨l, A', n', c', e1, h1, h2, h4, h3⟩ := open_by (readsBy_slice ht 1 24 hc hb (by omega) (readsBy_slice he 1 1 hc2 hb2 (by omega) (readsBy_u8 he2))) h hz
  simp only [Value.cells, List.cons.injEq, Value.slice.injEq, and_true] at e1
  obtain ⟨rfl, rfl, rfl⟩ := e1
  exact ⟨l, h1, h2, (rowsAt_of h3).1, by omega, (rowsAt_of h3).2⟩
end
end Go.Proofs.Ytamdejidkgnaeaa

namespace Go.Proofs.Ytamdejidkgnaeaa
open Go.RowKit Go.ChangeShapes Go.WideShapes

section
variable {H : Type} {enc : TypeId × Value → H} {P : Program} {w : World}

theorem mem_weightsEach : ∀ {ts : List TypeId} {ds : List (DataW H)} {i : Nat} {t : TypeId} {d : DataW H} {k : Nat}, ts[i]? = some t → ds[i]? = some d → k ∈ d.weights P t → k ∈ DataW.weightsEach P ts ds
  | _ :: _, _ :: _, 0, _, _, _, h1, h2, hk => by
    cases h1
    cases h2
    rw [DataW.weightsEach, List.mem_append]
    exact Or.inl hk
  | _ :: ts, _ :: ds, i + 1, _, _, _, h1, h2, hk => by
    rw [DataW.weightsEach, List.mem_append]
    exact Or.inr (mem_weightsEach (i := i) (by simpa using h1) (by simpa using h2) hk)
  | [], _, _, _, _, _, h1, _, _ => by simp at h1
  | _ :: _, [], _, _, _, _, _, h2, _ => by simp at h2
/-- a struct's fields read, each within the form's reach -/
theorem open_fields {t : TypeId} {fs : Array Field} (ht : P.underlying t = some (.struct fs)) {m : Nat} {cs : List Value} {y : DataW H × List MemPlace}
    (h : DataW.trod enc P w 0 (fun _ => true) true m t cs = some y) (hz : Within P t y.1) :
    cs.length = P.cellsOf t ∧ ∀ (i : Nat) (f : Field), fs[i]? = some f → ∃ m' y', DataW.trod enc P w 0 (fun _ => true) true m' f.type ((cs.drop f.offset).take (P.cellsOf f.type)) = some y' ∧ Within P f.type y'.1 := by
  obtain ⟨xs, n, _, rfl, hl, hlen, hf⟩ := DataW.trod_struct ht h
  refine ⟨hl, fun i f hi => ?_⟩
  have h1 := hf i f hi
  have hlt : i < xs.length := by
    rw [hlen]
    exact (Array.getElem?_eq_some_iff.1 hi).1
  rw [List.getElem?_eq_getElem hlt] at h1
  refine ⟨n, xs[i], h1, fun k hk => hz k ?_⟩
  show k ∈ DataW.weights P t (.agg (xs.map (·.1)))
  rw [DataW.weights, ht]
  exact mem_weightsEach (i := i) (t := f.type) (d := xs[i].1) (by simp [hi]) (by simp [hlt]) hk

/-- the fields of a struct's type: what each is, where it lies -/
def fieldsOf (P : Program) (t : TypeId) : Option (List (TypeId × Nat)) := (P.underlying t).bind fun d => match d with
  | .struct fs => some (fs.toList.map fun f => (f.type, f.offset))
  | _ => none
theorem open_fields_of {t : TypeId} {L : List (TypeId × Nat)} (ht : fieldsOf P t = some L) {m : Nat} {cs : List Value} {y : DataW H × List MemPlace}
    (h : DataW.trod enc P w 0 (fun _ => true) true m t cs = some y) (hz : Within P t y.1) :
    cs.length = P.cellsOf t ∧ ∀ (i : Nat) (e : TypeId) (off : Nat), L[i]? = some (e, off) → ∃ m' y', DataW.trod enc P w 0 (fun _ => true) true m' e ((cs.drop off).take (P.cellsOf e)) = some y' ∧ Within P e y'.1 := by
  unfold fieldsOf at ht
  cases hu : P.underlying t with
  | none => rw [hu] at ht; cases ht
  | some d =>
    rw [hu] at ht
    simp only [Option.bind_some] at ht
    split at ht
    · rename_i fs
      cases ht
      obtain ⟨h1, h2⟩ := open_fields hu h hz
      refine ⟨h1, fun i e off hi => ?_⟩
      rw [List.getElem?_map, Option.map_eq_some_iff] at hi
      obtain ⟨f, hf, he⟩ := hi
      cases he
      exact h2 i f (by simpa using hf)
    · cases ht

theorem SliceBy.mono {B s n : Nat} {A : Option Addr} {α : Type} {R R' : List Value → α → Prop} {l : List α} (h : SliceBy w B s A n R l) (hR : ∀ cs a, R cs a → R' cs a) : SliceBy w B s A n R' l :=
  ⟨h.1, fun hn => by
    obtain ⟨b, off, e, hb, hc⟩ := h.2 hn
    exact ⟨b, off, e, hb, fun j a hj => by
      obtain ⟨cs, h1, h2, h3⟩ := hc j a hj
      exact ⟨cs, h1, hR _ _ h2, h3⟩⟩⟩
/-- it stays while old blocks stay -/
theorem SliceBy.keep {w' : World} {B s n : Nat} {A : Option Addr} {α : Type} {R R' : List Value → α → Prop} {l : List α} (h : SliceBy w B s A n R l) (hk : ∀ p : Addr, p.block < B → w'.cell? p = w.cell? p) (hR : ∀ cs a, R cs a → R' cs a) : SliceBy w' B s A n R' l :=
  ⟨h.1, fun hn => by
    obtain ⟨b, off, e, hb, hc⟩ := h.2 hn
    exact ⟨b, off, e, hb, fun j a hj => by
      obtain ⟨cs, h1, h2, h3⟩ := hc j a hj
      exact ⟨cs, h1, hR _ _ h2, fun i u hu => (hk _ hb).trans (h3 i u hu)⟩⟩⟩
theorem intsAt_of {B : Nat} {A : Option Addr} {n : Nat} {l : List Int} (h : SliceBy w B 1 A n (fun cs (x : Int) => cs = [.int .i64 x] ∧ -9223372036854775808 ≤ x ∧ x ≤ 9223372036854775807) l) : IntsAt w B A n l ∧ ∀ x ∈ l, -9223372036854775808 ≤ x ∧ x ≤ 9223372036854775807 := by
  refine ⟨⟨by simpa using h.1, fun hn => ?_⟩, fun x hx => ?_⟩
  · obtain ⟨b, off, e, hb, hc⟩ := h.2 hn
    refine ⟨b, off, e, hb, fun j u hu => ?_⟩
    rw [List.getElem?_map] at hu
    cases hx : l[j]? with
    | none => rw [hx] at hu; cases hu
    | some x =>
      rw [hx] at hu
      cases hu
      obtain ⟨cs, _, ⟨rfl, _⟩, hcs⟩ := hc j x hx
      have := hcs 0 _ rfl
      simpa [i64v] using this
  · obtain ⟨j, hj⟩ := List.getElem?_of_mem hx
    have hn : 0 < n := by
      have h1 := (List.getElem?_eq_some_iff.1 hj).1
      have h2 := h.1
      omega
    obtain ⟨b, off, e, hb, hc⟩ := h.2 hn
    obtain ⟨cs, _, ⟨_, h2⟩, _⟩ := hc j x hj
    exact h2
theorem list5 {α : Type} {l : List α} (h : l.length = 5) : ∃ a b c d e, l = [a, b, c, d, e] := by
  match l, h with
  | [a, b, c, d, e], _ => exact ⟨a, b, c, d, e, rfl⟩
theorem list2 {α : Type} {l : List α} (h : l.length = 2) : ∃ a b, l = [a, b] := by
  match l, h with
  | [a, b], _ => exact ⟨a, b, rfl⟩
end
end Go.Proofs.Ytamdejidkgnaeaa

namespace Go.Proofs.Ytamdejidkgnaeaa
open Go.RowKit Go.ChangeShapes Go.WideShapes

structure PartM where
  tag : UInt8
  b : List UInt8
instance : Inhabited PartM := ⟨⟨0, []⟩⟩

/-- two cells are a part -/
def PartCells (w : World) (B : Nat) (cs : List Value) (t : PartM) : Prop :=
  ∃ A n c, cs = [.int .u8 (t.tag.toNat : Int), .slice A n c] ∧ n ≤ c ∧ c ≤ maxLen ∧ n ≤ 140737488351232 ∧ BytesAt w B A n t.b
def PartsAt (w : World) (B : Nat) (A : Option Addr) (n : Nat) (ts : List PartM) : Prop := SliceBy w B 2 A n (PartCells w B) ts

section
variable {w w' : World} {B B' n : Nat} {A : Option Addr} {ts : List PartM}
theorem PartCells.keep {cs : List Value} {t : PartM} (h : PartCells w B cs t) (hk : ∀ p : Addr, p.block < B → w'.cell? p = w.cell? p) : PartCells w' B cs t := by
  obtain ⟨A, n, c, h0, h1, h2, h4, h3⟩ := h
  exact ⟨A, n, c, h0, h1, h2, h4, h3.keep hk⟩
theorem PartsAt.keep (h : PartsAt w B A n ts) (hk : ∀ p : Addr, p.block < B → w'.cell? p = w.cell? p) : PartsAt w' B A n ts := SliceBy.keep h hk fun _ _ h => h.keep hk
theorem PartsAt.below (h : PartsAt w B A n ts) (hb : Below B w w') : PartsAt w' B A n ts := h.keep fun _ hp => hb.cell hp
theorem PartsAt.more (h : PartsAt w B A n ts) (hB : B ≤ B') : PartsAt w B' A n ts :=
  ⟨h.1, fun hn => by
    obtain ⟨b, off, e, hb, hc⟩ := h.2 hn
    refine ⟨b, off, e, by omega, fun j a hj => ?_⟩
    obtain ⟨cs, h1, ⟨A', n', c', h2, h3, h4, h7, h5⟩, h6⟩ := hc j a hj
    exact ⟨cs, h1, ⟨A', n', c', h2, h3, h4, h7, h5.more hB⟩, h6⟩⟩
theorem PartsAt.len (h : PartsAt w B A n ts) : ts.length = n := h.1
/-- a part at its place -/
theorem PartsAt.at_ (h : PartsAt w B A n ts) {k : Nat} {t : PartM} (hk : ts[k]? = some t) : ∃ b off A1 n1 c1, A = some ⟨b, off, none⟩ ∧ b < B ∧
    w.cell? ⟨b, off + k * 2, none⟩ = some (.int .u8 (t.tag.toNat : Int)) ∧ w.cell? ⟨b, off + k * 2 + 1, none⟩ = some (.slice A1 n1 c1) ∧ n1 ≤ c1 ∧ c1 ≤ maxLen ∧ n1 ≤ 140737488351232 ∧ BytesAt w B A1 n1 t.b := by
  have hn : 0 < n := by
    have h1 := (List.getElem?_eq_some_iff.1 hk).1
    have h2 := h.1
    omega
  obtain ⟨b, off, e, hb, hc⟩ := h.2 hn
  obtain ⟨cs, hl, ⟨A1, n1, c1, rfl, h1, h2, h4, h3⟩, hcs⟩ := hc k t hk
  exact ⟨b, off, A1, n1, c1, e, hb, hcs 0 _ rfl, hcs 1 _ rfl, h1, h2, h4, h3⟩
end

section
variable {H : Type} {enc : TypeId × Value → H} {w : World}
end
def partsTot : List PartM → Nat
  | [] => 0
  | t :: r => 1 + t.b.length + partsTot r
theorem partsTot_append (a b : List PartM) : partsTot (a ++ b) = partsTot a + partsTot b := by
  induction a with
  | nil => simp [partsTot]
  | cons x a ih => simp only [List.cons_append, partsTot, ih]; omega
theorem partsTot_succ {ts : List PartM} {k : Nat} {t : PartM} (h : ts[k]? = some t) : partsTot (ts.take (k + 1)) = partsTot (ts.take k) + (1 + t.b.length) := by
  rw [List.take_add_one, h, partsTot_append]
  simp [partsTot]
theorem partsTot_le (ts : List PartM) (k : Nat) : partsTot (ts.take k) ≤ partsTot ts := by
  have h := partsTot_append (ts.take k) (ts.drop k)
  rw [List.take_append_drop] at h
  omega
theorem part_range {w : World} {b off k : Nat} {t : PartM} {A1 : Option Addr} {n1 c1 : Nat} (h0 : w.cell? ⟨b, off + k * 2, none⟩ = some (.int .u8 (t.tag.toNat : Int))) (h1 : w.cell? ⟨b, off + k * 2 + 1, none⟩ = some (.slice A1 n1 c1)) : w.rangeAt b (off + k * 2) [.int .u8 (t.tag.toNat : Int), .slice A1 n1 c1] := fun j v hj => by
  match j, hj with
  | 0, hj => cases hj; exact h0
  | 1, hj => cases hj; exact h1
end Go.Proofs.Ytamdejidkgnaeaa

namespace Go.Proofs.Ytamdejidkgnaeaa
open Go.RowKit

/-- what is told: all, or more than is asked -/
def PartsN (ts : List PartM) (most N : Nat) : Prop := (partsTot ts ≤ most ∧ N = partsTot ts) ∨ (most < N ∧ most < partsTot ts)
def PartsNV (ts : List PartM) (most : Nat) (w : World) (e : Ending) (w' : World) : Prop := ∃ N : Nat, PartsN ts most N ∧ e = .returned (.int .i64 (N : Int)) ∧ w = w'

end Go.Proofs.Ytamdejidkgnaeaa
