/-
  The deeds that mudlarklaw04's statements are about: what an argument of type []Deed reads as; whether they are too many.
-/
import Derived.Outline
import Derived.Lib.Hide
import Derived.BigQuiet
import Derived.Deep.QuietTactic
import Derived.OpenShut
import Derived.ProofKit
import Derived.Test.YtcfhhekklakacaaProg
import Derived.Test.YtcfhhekklakacaaBaseB
import Derived.Test.YtcfhhekklakacaaBaseA
import Derived.WalkKit
namespace Go.Proofs.Ytcfhhekklakacaa
open Go.RowKit Go.ChangeShapes Go.WideShapes
set_option linter.unusedVariables false
structure DeedM where
  what : Int
  name : ByteArray
  to' : ByteArray
  n : Int
  m : Int
  b : List UInt8
  tears : List Int
def I64 (x : Int) : Prop := -9223372036854775808 ≤ x ∧ x ≤ 9223372036854775807
/-- seven cells are a deed -/
def DeedCells (w : World) (B : Nat) (cs : List Value) (t : DeedM) : Prop :=
  ∃ A1 n1 c1 A2 n2 c2, cs = [.int .i64 t.what, .string t.name, .string t.to', .int .i64 t.n, .int .i64 t.m, .slice A1 n1 c1, .slice A2 n2 c2] ∧
    (I64 t.what ∧ I64 t.n ∧ t.name.size ≤ 140737488351232 ∧ t.to'.size ≤ 140737488351232) ∧
    (n1 ≤ c1 ∧ c1 ≤ 140737488351232 ∧ BytesAt w B A1 n1 t.b) ∧ (n2 ≤ c2 ∧ c2 ≤ 17592186043904 ∧ IntsAt w B A2 n2 t.tears) ∧ ∀ x ∈ t.tears, I64 x
def DeedsAt (w : World) (B : Nat) (A : Option Addr) (n : Nat) (ts : List DeedM) : Prop := SliceBy w B 7 A n (DeedCells w B) ts
section
variable {w w' : World} {B n : Nat} {A : Option Addr} {ts : List DeedM}
theorem DeedCells.keep {cs : List Value} {t : DeedM} (h : DeedCells w B cs t) (hk : ∀ p : Addr, p.block < B → w'.cell? p = w.cell? p) : DeedCells w' B cs t := by
  obtain ⟨A1, n1, c1, A2, n2, c2, h0, h1, ⟨h4, h5, h6⟩, ⟨h7, h8, h9⟩, h10⟩ := h
  exact ⟨A1, n1, c1, A2, n2, c2, h0, h1, ⟨h4, h5, h6.keep hk⟩, ⟨h7, h8, h9.keep hk⟩, h10⟩
theorem DeedsAt.keep (h : DeedsAt w B A n ts) (hk : ∀ p : Addr, p.block < B → w'.cell? p = w.cell? p) : DeedsAt w' B A n ts := SliceBy.keep h hk fun _ _ h => h.keep hk
theorem DeedsAt.below (h : DeedsAt w B A n ts) (hb : Below B w w') : DeedsAt w' B A n ts := h.keep fun _ hp => hb.cell hp
theorem DeedsAt.len (h : DeedsAt w B A n ts) : ts.length = n := h.1
/-- a deed at its place -/
theorem DeedsAt.at_ (h : DeedsAt w B A n ts) {k : Nat} {t : DeedM} (hk : ts[k]? = some t) : ∃ b off A1 n1 c1 A2 n2 c2, A = some ⟨b, off, none⟩ ∧ b < B ∧
    (∀ i u, [Value.int .i64 t.what, .string t.name, .string t.to', .int .i64 t.n, .int .i64 t.m, .slice A1 n1 c1, .slice A2 n2 c2][i]? = some u → w.cell? ⟨b, off + k * 7 + i, none⟩ = some u) ∧
    (I64 t.what ∧ I64 t.n ∧ t.name.size ≤ 140737488351232 ∧ t.to'.size ≤ 140737488351232) ∧
    (n1 ≤ c1 ∧ c1 ≤ 140737488351232 ∧ BytesAt w B A1 n1 t.b) ∧ (n2 ≤ c2 ∧ c2 ≤ 17592186043904 ∧ IntsAt w B A2 n2 t.tears) ∧ ∀ x ∈ t.tears, I64 x := by
  have hn : 0 < n := by
    have h1 := (List.getElem?_eq_some_iff.1 hk).1
    have h2 := h.1
    omega
  obtain ⟨b, off, e, hb, hc⟩ := h.2 hn
  obtain ⟨cs, hl, hR, hcs⟩ := hc k t hk
  obtain ⟨A1, n1, c1, A2, n2, c2, rfl, h1, h4, h7, h10⟩ := hR
  exact ⟨b, off, A1, n1, c1, A2, n2, c2, e, hb, hcs, h1, h4, h7, h10⟩
end
section
variable {H : Type} {enc : TypeId × Value → H} {w : World}
theorem list7 {α : Type} {l : List α} (h : l.length = 7) : ∃ a b c d e f g, l = [a, b, c, d, e, f, g] := by
  match l, h with
  | [a, b, c, d, e, f, g], _ => exact ⟨a, b, c, d, e, f, g, rfl⟩
theorem readsBy_string {P : Program} {t : TypeId} (ht : P.underlying t = some .string) : ReadsBy enc P w t (fun cs (s : ByteArray) => cs = [.string s] ∧ s.size ≤ 140737488351232) := fun m cs y h hz => by
  obtain ⟨s, hx, rfl, hs⟩ := DataW.trod_string ht h
  refine ⟨s, hx, ?_⟩
  have h1 := hz s.data.toList.length (by simp [DataW.weights])
  rw [Array.length_toList] at h1
  exact h1
theorem readsBy_Deed : ReadsBy enc Try.prog w 42 (DeedCells w w.heap.size) := fun m cs y h hz => by
  obtain ⟨hl, hf⟩ := open_fields_of (show fieldsOf Try.prog 42 = some [(3, 0), (9, 1), (9, 2), (3, 3), (3, 4), (22, 5), (23, 6)] by kernel_rfl) h hz
  rw [show Try.prog.cellsOf 42 = 7 by kernel_rfl] at hl
  obtain ⟨x0, x1, x2, x3, x4, x5, x6, rfl⟩ := list7 hl
  have ci : Try.prog.cellsOf 3 = 1 := by kernel_rfl
  have cs' : Try.prog.cellsOf 9 = 1 := by kernel_rfl
  have cb : Try.prog.cellsOf 22 = 1 := by kernel_rfl
  have cr : Try.prog.cellsOf 23 = 1 := by kernel_rfl
  obtain ⟨m0, y0, h0, z0⟩ := hf 0 _ _ rfl
  obtain ⟨m1, y1, h1, z1⟩ := hf 1 _ _ rfl
  obtain ⟨m2, y2, h2, z2⟩ := hf 2 _ _ rfl
  obtain ⟨m3, y3, h3, z3⟩ := hf 3 _ _ rfl
  obtain ⟨m4, y4, h4, z4⟩ := hf 4 _ _ rfl
  obtain ⟨m5, y5, h5, z5⟩ := hf 5 _ _ rfl
  obtain ⟨m6, y6, h6, z6⟩ := hf 6 _ _ rfl
  rw [ci] at h0 h3 h4
  rw [cs'] at h1 h2
  rw [cb] at h5
  rw [cr] at h6
  obtain ⟨a0, e0, r0⟩ := readsBy_i64 Try.underlying3 _ _ _ h0 z0
  obtain ⟨s1, e1, r1⟩ := readsBy_string Try.underlying9 _ _ _ h1 z1
  obtain ⟨s2, e2, r2⟩ := readsBy_string Try.underlying9 _ _ _ h2 z2
  obtain ⟨a3, e3, r3⟩ := readsBy_i64 Try.underlying3 _ _ _ h3 z3
  obtain ⟨a4, e4, r4⟩ := readsBy_i64 Try.underlying3 _ _ _ h4 z4
  obtain ⟨l5, A5, n5, c5, e5, p5, _, q5, s5⟩ := readsBy_slice Try.underlying22 1 1 (by kernel_rfl) (by kernel_rfl) (by omega) (readsBy_u8 Try.underlying5) _ _ _ h5 z5
  obtain ⟨l6, A6, n6, c6, e6, p6, _, q6, s6⟩ := readsBy_slice Try.underlying23 1 8 (by kernel_rfl) (by kernel_rfl) (by omega) (readsBy_i64 Try.underlying3) _ _ _ h6 z6
  have g0 : x0 = .int .i64 a0 := by simpa using e0
  have g1 : x1 = .string s1 := by simpa using e1
  have g2 : x2 = .string s2 := by simpa using e2
  have g3 : x3 = .int .i64 a3 := by simpa using e3
  have g4 : x4 = .int .i64 a4 := by simpa using e4
  have g5 : x5 = .slice A5 n5 c5 := by simpa using e5
  have g6 : x6 = .slice A6 n6 c6 := by simpa using e6
  subst g0 g1 g2 g3 g4 g5 g6
  obtain ⟨i6, i7⟩ := intsAt_of s6
  exact ⟨⟨a0, s1, s2, a3, a4, l5, l6⟩, A5, n5, c5, A6, n6, c6, rfl, ⟨r0, r3, r1, r2⟩, ⟨p5, by omega, bytesAt_of s5⟩, ⟨p6, by omega, i6⟩, i7⟩
instance : Inhabited DeedM := ⟨⟨0, ⟨#[]⟩, ⟨#[]⟩, 0, 0, [], []⟩⟩
theorem open_ints {A : Option Addr} {n c : Nat} {d : DataW H} {p : List MemPlace}
    (h : DataW.Trod enc Try.prog w 0 (fun _ => true) true 23 (.slice A n c) d p) (hz : Within Try.prog 23 d) : ∃ l : List Int, n ≤ c ∧ c ≤ 17592186043904 ∧ IntsAt w w.heap.size A n l ∧ ∀ x ∈ l, -9223372036854775808 ≤ x ∧ x ≤ 9223372036854775807 := by
  obtain ⟨l, A', n', c', e1, h1, h2, h4, h3⟩ := open_by (readsBy_slice Try.underlying23 1 8 (by kernel_rfl) (by kernel_rfl) (by omega) (readsBy_i64 Try.underlying3)) h hz
  simp only [Value.cells, List.cons.injEq, Value.slice.injEq, and_true] at e1
  obtain ⟨rfl, rfl, rfl⟩ := e1
  obtain ⟨i1, i2⟩ := intsAt_of h3
  exact ⟨l, h1, by omega, i1, i2⟩
theorem open_deeds {A : Option Addr} {n c : Nat} {d : DataW H} {p : List MemPlace}
    (h : DataW.Trod enc Try.prog w 0 (fun _ => true) true 38 (.slice A n c) d p) (hz : Within Try.prog 38 d) : ∃ ts : List DeedM, n ≤ c ∧ c ≤ maxLen ∧ DeedsAt w w.heap.size A n ts ∧ n ≤ 1954687338269 := by
  obtain ⟨l, A', n', c', e1, h1, h2, h4, h3⟩ := open_by (readsBy_slice Try.underlying38 7 104 (by kernel_rfl) (by kernel_rfl) (by omega) readsBy_Deed) h hz
  simp only [Value.cells, List.cons.injEq, Value.slice.injEq, and_true] at e1
  obtain ⟨rfl, rfl, rfl⟩ := e1
  exact ⟨l, h1, h2, h3, by omega⟩
end
def deedSize (t : DeedM) : Nat := t.name.size + t.to'.size + t.b.length + t.tears.length
def deedsTot : List DeedM → Nat
  | [] => 0
  | t :: r => deedSize t + deedsTot r
theorem deedsTot_append (a b : List DeedM) : deedsTot (a ++ b) = deedsTot a + deedsTot b := by
  induction a with
  | nil => simp [deedsTot]
  | cons x a ih => simp only [List.cons_append, deedsTot, ih]; omega
theorem deedsTot_succ {ts : List DeedM} {k : Nat} {t : DeedM} (h : ts[k]? = some t) : deedsTot (ts.take (k + 1)) = deedsTot (ts.take k) + deedSize t := by
  rw [List.take_add_one, h, deedsTot_append]
  simp [deedsTot]
theorem deedsTot_le (ts : List DeedM) (k : Nat) : deedsTot (ts.take k) ≤ deedsTot ts := by
  have h := deedsTot_append (ts.take k) (ts.drop k)
  rw [List.take_append_drop] at h
  omega
theorem deedSize_le {ts : List DeedM} {t : DeedM} (h : t ∈ ts) : deedSize t ≤ deedsTot ts := by
  induction ts with
  | nil => cases h
  | cons x r ih =>
    rw [deedsTot]
    rcases List.mem_cons.1 h with rfl | h
    · omega
    · have := ih h; omega
def great04B (ts : List DeedM) : Bool := decide (3000 < ts.length + deedsTot ts ∨ 200 < ts.length)
end Go.Proofs.Ytcfhhekklakacaa
