/-
  The things that mudlarklaw02's statements are about: what an argument of type []Thing reads as.
-/
import Derived.Test.YtcjbeaohmgfgoaaGreatProg
import Derived.Test.YtcjbeaohmgfgoaaGreatReadStruct
import Derived.WalkKit
namespace Go.Proofs.YtcjbeaohmgfgoaaGreat
open Go.RowKit Go.ChangeShapes Go.WideShapes

structure ThingM where
  kind : Int
  n : Int
  many : Int
  b : List UInt8
  row : List Int

/-- five cells are a thing -/
def ThingCells (w : World) (B : Nat) (cs : List Value) (t : ThingM) : Prop :=
  ∃ A1 n1 c1 A2 n2 c2, cs = [.int .i64 t.kind, .int .i64 t.n, .int .i64 t.many, .slice A1 n1 c1, .slice A2 n2 c2] ∧
    (-9223372036854775808 ≤ t.kind ∧ t.kind ≤ 9223372036854775807) ∧ (-9223372036854775808 ≤ t.n ∧ t.n ≤ 9223372036854775807) ∧ (-9223372036854775808 ≤ t.many ∧ t.many ≤ 9223372036854775807) ∧
    (n1 ≤ c1 ∧ c1 ≤ 140737488351232 ∧ BytesAt w B A1 n1 t.b) ∧ (n2 ≤ c2 ∧ c2 ≤ 17592186043904 ∧ IntsAt w B A2 n2 t.row) ∧ ∀ x ∈ t.row, -9223372036854775808 ≤ x ∧ x ≤ 9223372036854775807
def ThingsAt (w : World) (B : Nat) (A : Option Addr) (n : Nat) (ts : List ThingM) : Prop := SliceBy w B 5 A n (ThingCells w B) ts

section
variable {w w' : World} {B n : Nat} {A : Option Addr} {ts : List ThingM}
theorem ThingCells.keep {cs : List Value} {t : ThingM} (h : ThingCells w B cs t) (hk : ∀ p : Addr, p.block < B → w'.cell? p = w.cell? p) : ThingCells w' B cs t := by
  obtain ⟨A1, n1, c1, A2, n2, c2, h0, h1, h2, h3, ⟨h4, h5, h6⟩, ⟨h7, h8, h9⟩, h10⟩ := h
  exact ⟨A1, n1, c1, A2, n2, c2, h0, h1, h2, h3, ⟨h4, h5, h6.keep hk⟩, ⟨h7, h8, h9.keep hk⟩, h10⟩
theorem ThingsAt.keep (h : ThingsAt w B A n ts) (hk : ∀ p : Addr, p.block < B → w'.cell? p = w.cell? p) : ThingsAt w' B A n ts := SliceBy.keep h hk fun _ _ h => h.keep hk
theorem ThingsAt.below (h : ThingsAt w B A n ts) (hb : Below B w w') : ThingsAt w' B A n ts := h.keep fun _ hp => hb.cell hp
theorem ThingsAt.len (h : ThingsAt w B A n ts) : ts.length = n := h.1
/-- a thing at its place -/
theorem ThingsAt.at_ (h : ThingsAt w B A n ts) {k : Nat} {t : ThingM} (hk : ts[k]? = some t) : ∃ b off A1 n1 c1 A2 n2 c2, A = some ⟨b, off, none⟩ ∧ b < B ∧
    w.cell? ⟨b, off + k * 5, none⟩ = some (.int .i64 t.kind) ∧ w.cell? ⟨b, off + k * 5 + 1, none⟩ = some (.int .i64 t.n) ∧ w.cell? ⟨b, off + k * 5 + 2, none⟩ = some (.int .i64 t.many) ∧
    w.cell? ⟨b, off + k * 5 + 3, none⟩ = some (.slice A1 n1 c1) ∧ w.cell? ⟨b, off + k * 5 + 4, none⟩ = some (.slice A2 n2 c2) ∧
    ThingCells w B [.int .i64 t.kind, .int .i64 t.n, .int .i64 t.many, .slice A1 n1 c1, .slice A2 n2 c2] t ∧ BytesAt w B A1 n1 t.b ∧ IntsAt w B A2 n2 t.row := by
  have hn : 0 < n := by
    have h1 := (List.getElem?_eq_some_iff.1 hk).1
    have h2 := h.1
    omega
  obtain ⟨b, off, e, hb, hc⟩ := h.2 hn
  obtain ⟨cs, hl, hR, hcs⟩ := hc k t hk
  have hR' := hR
  obtain ⟨A1, n1, c1, A2, n2, c2, rfl, h1, h2, h3, ⟨h4, h5, h6⟩, ⟨h7, h8, h9⟩, h10⟩ := hR'
  exact ⟨b, off, A1, n1, c1, A2, n2, c2, e, hb, hcs 0 _ rfl, hcs 1 _ rfl, hcs 2 _ rfl, hcs 3 _ rfl, hcs 4 _ rfl, hR, h6, h9⟩
end

section
variable {H : Type} {enc : TypeId × Value → H} {w : World}
theorem readsBy_Thing : ReadsBy enc Tryz.prog w 27 (ThingCells w w.heap.size) := fun m cs y h hz => by
  obtain ⟨hl, hf⟩ := open_fields_of (show fieldsOf Tryz.prog 27 = some [(3, 0), (3, 1), (3, 2), (22, 3), (25, 4)] by kernel_rfl) h hz
  rw [show Tryz.prog.cellsOf 27 = 5 by kernel_rfl] at hl
  obtain ⟨x0, x1, x2, x3, x4, rfl⟩ := list5 hl
  have ci : Tryz.prog.cellsOf 3 = 1 := by kernel_rfl
  have cb : Tryz.prog.cellsOf 22 = 1 := by kernel_rfl
  have cr : Tryz.prog.cellsOf 25 = 1 := by kernel_rfl
  obtain ⟨m0, y0, h0, z0⟩ := hf 0 _ _ rfl
  obtain ⟨m1, y1, h1, z1⟩ := hf 1 _ _ rfl
  obtain ⟨m2, y2, h2, z2⟩ := hf 2 _ _ rfl
  obtain ⟨m3, y3, h3, z3⟩ := hf 3 _ _ rfl
  obtain ⟨m4, y4, h4, z4⟩ := hf 4 _ _ rfl
  rw [ci] at h0 h1 h2
  rw [cb] at h3
  rw [cr] at h4
  obtain ⟨a0, e0, r0⟩ := readsBy_i64 Tryz.underlying3 _ _ _ h0 z0
  obtain ⟨a1, e1, r1⟩ := readsBy_i64 Tryz.underlying3 _ _ _ h1 z1
  obtain ⟨a2, e2, r2⟩ := readsBy_i64 Tryz.underlying3 _ _ _ h2 z2
  obtain ⟨l3, A3, n3, c3, e3, p3, _, q3, s3⟩ := readsBy_slice Tryz.underlying22 1 1 (by kernel_rfl) (by kernel_rfl) (by omega) (readsBy_u8 Tryz.underlying5) _ _ _ h3 z3
  obtain ⟨l4, A4, n4, c4, e4, p4, _, q4, s4⟩ := readsBy_slice Tryz.underlying25 1 8 (by kernel_rfl) (by kernel_rfl) (by omega) (readsBy_i64 Tryz.underlying3) _ _ _ h4 z4
  have g0 : x0 = .int .i64 a0 := by simpa using e0
  have g1 : x1 = .int .i64 a1 := by simpa using e1
  have g2 : x2 = .int .i64 a2 := by simpa using e2
  have g3 : x3 = .slice A3 n3 c3 := by simpa using e3
  have g4 : x4 = .slice A4 n4 c4 := by simpa using e4
  subst g0 g1 g2 g3 g4
  obtain ⟨i4, i5⟩ := intsAt_of s4
  exact ⟨⟨a0, a1, a2, l3, l4⟩, A3, n3, c3, A4, n4, c4, rfl, r0, r1, r2, ⟨p3, by omega, bytesAt_of s3⟩, ⟨p4, by omega, i4⟩, i5⟩
instance : Inhabited ThingM := ⟨⟨0, 0, 0, [], []⟩⟩
theorem open_things {A : Option Addr} {n c : Nat} {d : DataW H} {p : List MemPlace}
    (h : DataW.Trod enc Tryz.prog w 0 (fun _ => true) true 28 (.slice A n c) d p) (hz : Within Tryz.prog 28 d) : ∃ ts : List ThingM, n ≤ c ∧ c ≤ maxLen ∧ ThingsAt w w.heap.size A n ts ∧ n ≤ 1954687338269 := by
  obtain ⟨l, A', n', c', e1, h1, h2, h4, h3⟩ := open_by (readsBy_slice Tryz.underlying28 5 72 (by kernel_rfl) (by kernel_rfl) (by omega) readsBy_Thing) h hz
  simp only [Value.cells, List.cons.injEq, Value.slice.injEq, and_true] at e1
  obtain ⟨rfl, rfl, rfl⟩ := e1
  exact ⟨l, h1, h2, h3, by omega⟩
end
def thingSize (t : ThingM) : Nat := t.b.length + t.row.length
def thingsTot : List ThingM → Nat
  | [] => 0
  | t :: r => thingSize t + thingsTot r
theorem thingsTot_append (a b : List ThingM) : thingsTot (a ++ b) = thingsTot a + thingsTot b := by
  induction a with
  | nil => simp [thingsTot]
  | cons x a ih => simp only [List.cons_append, thingsTot, ih]; omega
theorem thingsTot_succ {ts : List ThingM} {k : Nat} {t : ThingM} (h : ts[k]? = some t) : thingsTot (ts.take (k + 1)) = thingsTot (ts.take k) + thingSize t := by
  rw [List.take_add_one, h, thingsTot_append]
  simp [thingsTot]
theorem thingsTot_le (ts : List ThingM) (k : Nat) : thingsTot (ts.take k) ≤ thingsTot ts := by
  have h := thingsTot_append (ts.take k) (ts.drop k)
  rw [List.take_append_drop] at h
  omega
theorem thingSize_le {ts : List ThingM} {t : ThingM} (h : t ∈ ts) : thingSize t ≤ thingsTot ts := by
  induction ts with
  | nil => cases h
  | cons x r ih =>
    rw [thingsTot]
    rcases List.mem_cons.1 h with rfl | h
    · omega
    · have := ih h; omega
def greatB (ts : List ThingM) (m : Nat) : Bool := decide (4000 < ts.length + m + thingsTot ts)
end Go.Proofs.YtcjbeaohmgfgoaaGreat
