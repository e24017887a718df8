/-
  The parts that mudlarklaw03's statements are about: what an argument of type []api.Part reads as.
-/
import Derived.Test.YtbbjeokecgnfpaaProg
import Derived.Test.YtbbjeokecgnfpaaReadStruct
import Derived.WalkKit
import Derived.Deep.MidRow
namespace Go.Proofs.Ytbbjeokecgnfpaa
open Go.RowKit Go.ChangeShapes Go.WideShapes

structure PartM where
  tag : UInt8
  b : List UInt8
instance : Inhabited PartM := ⟨⟨0, []⟩⟩

/-- two cells are a part -/
def PartCells (w : World) (B : Nat) (cs : List Value) (t : PartM) : Prop :=
  ∃ A n c, cs = [.int .u8 (t.tag.toNat : Int), .slice A n c] ∧ n ≤ c ∧ c ≤ maxLen ∧ n ≤ 140737488351232 ∧ BytesAt w B A n t.b
def PartsAt (w : World) (B : Nat) (A : Option Addr) (n : Nat) (ts : List PartM) : Prop := SliceBy w B 2 A n (PartCells w B) ts

section
variable {w w' : World} {B B' n : Nat} {A : Option Addr} {ts : List PartM}
theorem PartCells.keep {cs : List Value} {t : PartM} (h : PartCells w B cs t) (hk : ∀ p : Addr, p.block < B → w'.cell? p = w.cell? p) : PartCells w' B cs t := by
  obtain ⟨A, n, c, h0, h1, h2, h4, h3⟩ := h
  exact ⟨A, n, c, h0, h1, h2, h4, h3.keep hk⟩
theorem PartsAt.keep (h : PartsAt w B A n ts) (hk : ∀ p : Addr, p.block < B → w'.cell? p = w.cell? p) : PartsAt w' B A n ts := SliceBy.keep h hk fun _ _ h => h.keep hk
theorem PartsAt.below (h : PartsAt w B A n ts) (hb : Below B w w') : PartsAt w' B A n ts := h.keep fun _ hp => hb.cell hp
theorem PartsAt.more (h : PartsAt w B A n ts) (hB : B ≤ B') : PartsAt w B' A n ts :=
  ⟨h.1, fun hn => by
    obtain ⟨b, off, e, hb, hc⟩ := h.2 hn
    refine ⟨b, off, e, by omega, fun j a hj => ?_⟩
    obtain ⟨cs, h1, ⟨A', n', c', h2, h3, h4, h7, h5⟩, h6⟩ := hc j a hj
    exact ⟨cs, h1, ⟨A', n', c', h2, h3, h4, h7, h5.more hB⟩, h6⟩⟩
theorem PartsAt.len (h : PartsAt w B A n ts) : ts.length = n := h.1
/-- a part at its place -/
theorem PartsAt.at_ (h : PartsAt w B A n ts) {k : Nat} {t : PartM} (hk : ts[k]? = some t) : ∃ b off A1 n1 c1, A = some ⟨b, off, none⟩ ∧ b < B ∧
    w.cell? ⟨b, off + k * 2, none⟩ = some (.int .u8 (t.tag.toNat : Int)) ∧ w.cell? ⟨b, off + k * 2 + 1, none⟩ = some (.slice A1 n1 c1) ∧ n1 ≤ c1 ∧ c1 ≤ maxLen ∧ n1 ≤ 140737488351232 ∧ BytesAt w B A1 n1 t.b := by
  have hn : 0 < n := by
    have h1 := (List.getElem?_eq_some_iff.1 hk).1
    have h2 := h.1
    omega
  obtain ⟨b, off, e, hb, hc⟩ := h.2 hn
  obtain ⟨cs, hl, ⟨A1, n1, c1, rfl, h1, h2, h4, h3⟩, hcs⟩ := hc k t hk
  exact ⟨b, off, A1, n1, c1, e, hb, hcs 0 _ rfl, hcs 1 _ rfl, h1, h2, h4, h3⟩
end

section
variable {H : Type} {enc : TypeId × Value → H} {w : World}
theorem readsBy_Part : ReadsBy enc Try.prog w 39 (PartCells w w.heap.size) := fun m cs y h hz => by
  obtain ⟨hl, hf⟩ := open_fields_of (show fieldsOf Try.prog 39 = some [(5, 0), (22, 1)] by kernel_rfl) h hz
  rw [show Try.prog.cellsOf 39 = 2 by kernel_rfl] at hl
  obtain ⟨x0, x1, rfl⟩ := list2 hl
  obtain ⟨m0, y0, h0, z0⟩ := hf 0 _ _ rfl
  obtain ⟨m1, y1, h1, z1⟩ := hf 1 _ _ rfl
  rw [show Try.prog.cellsOf 5 = 1 by kernel_rfl] at h0
  rw [show Try.prog.cellsOf 22 = 1 by kernel_rfl] at h1
  obtain ⟨a0, e0⟩ := readsBy_u8 Try.underlying5 _ _ _ h0 z0
  obtain ⟨l1, A1, n1, c1, e1, p1, _, q1, s1⟩ := readsBy_slice Try.underlying22 1 1 (by kernel_rfl) (by kernel_rfl) (by omega) (readsBy_u8 Try.underlying5) _ _ _ h1 z1
  have g0 : x0 = b8 a0 := by simpa using e0
  have g1 : x1 = .slice A1 n1 c1 := by simpa using e1
  subst g0 g1
  exact ⟨⟨a0, l1⟩, A1, n1, c1, rfl, p1, by unfold maxLen; omega, by omega, bytesAt_of s1⟩
theorem open_parts {A : Option Addr} {n c : Nat} {d : DataW H} {p : List MemPlace}
    (h : DataW.Trod enc Try.prog w 0 (fun _ => true) true 24 (.slice A n c) d p) (hz : Within Try.prog 24 d) : ∃ ts : List PartM, n ≤ c ∧ c ≤ maxLen ∧ PartsAt w w.heap.size A n ts ∧ n ≤ 4398046510976 := by
  obtain ⟨l, A', n', c', e1, h1, h2, h4, h3⟩ := open_by (readsBy_slice Try.underlying24 2 32 (by kernel_rfl) (by kernel_rfl) (by omega) readsBy_Part) h hz
  simp only [Value.cells, List.cons.injEq, Value.slice.injEq, and_true] at e1
  obtain ⟨rfl, rfl, rfl⟩ := e1
  exact ⟨l, h1, h2, h3, by omega⟩
end
def partsTot : List PartM → Nat
  | [] => 0
  | t :: r => 1 + t.b.length + partsTot r
theorem partsTot_append (a b : List PartM) : partsTot (a ++ b) = partsTot a + partsTot b := by
  induction a with
  | nil => simp [partsTot]
  | cons x a ih => simp only [List.cons_append, partsTot, ih]; omega
theorem partsTot_succ {ts : List PartM} {k : Nat} {t : PartM} (h : ts[k]? = some t) : partsTot (ts.take (k + 1)) = partsTot (ts.take k) + (1 + t.b.length) := by
  rw [List.take_add_one, h, partsTot_append]
  simp [partsTot]
theorem partsTot_le (ts : List PartM) (k : Nat) : partsTot (ts.take k) ≤ partsTot ts := by
  have h := partsTot_append (ts.take k) (ts.drop k)
  rw [List.take_append_drop] at h
  omega
theorem part_range {w : World} {b off k : Nat} {t : PartM} {A1 : Option Addr} {n1 c1 : Nat} (h0 : w.cell? ⟨b, off + k * 2, none⟩ = some (.int .u8 (t.tag.toNat : Int))) (h1 : w.cell? ⟨b, off + k * 2 + 1, none⟩ = some (.slice A1 n1 c1)) : w.rangeAt b (off + k * 2) [.int .u8 (t.tag.toNat : Int), .slice A1 n1 c1] := fun j v hj => by
  match j, hj with
  | 0, hj => cases hj; exact h0
  | 1, hj => cases hj; exact h1
end Go.Proofs.Ytbbjeokecgnfpaa
