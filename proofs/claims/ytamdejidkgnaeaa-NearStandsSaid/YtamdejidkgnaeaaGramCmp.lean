/-
  The order of grams: what bytes.Compare tells of two of them; the closure that places hands to slices.SortFunc.
-/
import Derived.Test.YtamdejidkgnaeaaGramRows
import Derived.Lib.Bytealg
import Derived.Lib.BytesEntry
import Derived.Laws.Externs
import Derived.BigQuiet
import Derived.Deep.RegionWith
namespace Go.Proofs.Ytamdejidkgnaeaa
open Go.RowKit GramM
set_option linter.unusedVariables false
/-- what bytes.Compare tells of two grams -/
def cmpG (g h : Gr) : Int := Lib.compareBytes [g.1, g.2.1, g.2.2] [h.1, h.2.1, h.2.2]
/-- a gram's number -/
def numG (g : Gr) : Nat := g.1.toNat * 65536 + g.2.1.toNat * 256 + g.2.2.toNat
theorem cmpG_neg (g h : Gr) : decide (cmpG g h < 0) = decide (numG g < numG h) := by
  obtain ⟨a, b, c⟩ := g
  obtain ⟨x, y, z⟩ := h
  have q1 := a.toNat_lt
  have q2 := b.toNat_lt
  have q3 := c.toNat_lt
  have q4 := x.toNat_lt
  have q5 := y.toNat_lt
  have q6 := z.toNat_lt
  have hlt : ∀ u v : UInt8, u < v ↔ u.toNat < v.toNat := fun u v => UInt8.lt_iff_toNat_lt
  rw [decide_eq_decide]
  unfold cmpG numG
  simp only [Lib.compareBytes, hlt]
  repeat' split
  all_goals omega
theorem numG_inj {g h : Gr} (e : numG g = numG h) : g = h := by
  obtain ⟨a, b, c⟩ := g
  obtain ⟨x, y, z⟩ := h
  have q1 := a.toNat_lt
  have q2 := b.toNat_lt
  have q3 := c.toNat_lt
  have q4 := x.toNat_lt
  have q5 := y.toNat_lt
  have q6 := z.toNat_lt
  unfold numG at e
  simp only at e
  have e1 : a = x := UInt8.toNat_inj.1 (by omega)
  have e2 : b = y := UInt8.toNat_inj.1 (by omega)
  have e3 : c = z := UInt8.toNat_inj.1 (by omega)
  rw [e1, e2, e3]
theorem run_bytes3 {P : Program} (w : World) (g0 o c : Nat) (x y z : UInt8) (h0 : w.cell? ⟨g0, o, none⟩ = some (b8 x)) (h1 : w.cell? ⟨g0, o + 1, none⟩ = some (b8 y)) (h2 : w.cell? ⟨g0, o + 2, none⟩ = some (b8 z)) :
    (Extern.Bytes.bytesOf (.slice (some ⟨g0, o, none⟩) 3 c)).run P w = .ok ⟨#[x, y, z]⟩ w := by
  have hr : ∀ u : UInt8, ((u.toNat : Int).toNat).toUInt8 = u := fun u => by simp
  have ha : ∀ i : Nat, (⟨g0, i, none⟩ : Addr).add 1 = ⟨g0, i + 1, none⟩ := fun i => by unfold Addr.add; simp
  unfold b8 at h0 h1 h2
  have e2 : o + 1 + 1 = o + 2 := rfl
  simp only [Extern.Bytes.bytesOf, Extern.Bytes.loadBytes, Sem.run_bind, Sem.run_pure, ha, e2, run_load, h0, h1, h2, Result.andThen, hr]
  rfl
theorem run_compare3 {P : Program} (w : World) (a b oa ob ca cb : Nat) (g h : Gr) (ha : ∀ j v, [b8 g.1, b8 g.2.1, b8 g.2.2][j]? = some v → w.cell? ⟨a, oa + j, none⟩ = some v) (hb : ∀ j v, [b8 h.1, b8 h.2.1, b8 h.2.2][j]? = some v → w.cell? ⟨b, ob + j, none⟩ = some v) :
    (Extern.BytealgCompare.compare #[.slice (some ⟨a, oa, none⟩) 3 ca, .slice (some ⟨b, ob, none⟩) 3 cb]).run P w = .ok (.int .i64 (cmpG g h)) w := by
  change Sem.run P (do pure (goInt (Extern.BytealgCompare.cmp (← Extern.Bytes.bytesOf (.slice (some ⟨a, oa, none⟩) 3 ca)) (← Extern.Bytes.bytesOf (.slice (some ⟨b, ob, none⟩) 3 cb))))) w = _
  simp only [Sem.run_bind, Sem.run_pure, Result.andThen, run_bytes3 w a oa ca g.1 g.2.1 g.2.2 (ha 0 _ rfl) (ha 1 _ rfl) (ha 2 _ rfl), run_bytes3 w b ob cb h.1 h.2.1 h.2.2 (hb 0 _ rfl) (hb 1 _ rfl) (hb 2 _ rfl)]
  rw [Lib.cmp_eq]
  rfl
end Go.Proofs.Ytamdejidkgnaeaa
