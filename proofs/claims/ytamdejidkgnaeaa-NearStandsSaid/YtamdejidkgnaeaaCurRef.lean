/-
  The walks of the document's answer for cursors: rests as rows.
-/
import Derived.Test.YtamdejidkgnaeaaCur
namespace Go.Proofs.Ytamdejidkgnaeaa
open Go.RowKit CurM
set_option linter.unusedVariables false

/-- a row that a call has made -/
def RefNew (w : World) (L : List Int) (e : Ending) (w' : World) : Prop := ∃ r, e = .returned r ∧ w'.ownsRow w.heap.size 3 1 r L.length (L.map i64v) ∧ Grow w w'
theorem IntsAt.get {w : World} {B n : Nat} {A : Option Addr} {l : List Int} (h : IntsAt w B A n l) {k : Nat} {x : Int} (hx : l[k]? = some x) : ∃ b off, A = some ⟨b, off, none⟩ ∧ b < B ∧ w.cell? ⟨b, off + k, none⟩ = some (.int .i64 x) := by
  have h1 := (List.getElem?_eq_some_iff.1 hx).1
  obtain ⟨b, off, e, h2, h3⟩ := h.at_ (by have := h.len; omega)
  exact ⟨b, off, e, h2, h3 k x hx⟩
/-- a rest that is sought -/
def RefCut (A : Option Addr) (n c : Nat) (x : Int) (l : List Int) (w : World) (e : Ending) (w' : World) : Prop := ∃ k, k ≤ n ∧ e = .returned (.slice (cutA A c k 1) (n - k) (c - k)) ∧ seek x l = l.drop k ∧ w = w'
/-- a slice of slices of ints reads as the rows ls -/
def IRowsAt (w : World) (B : Nat) (A : Option Addr) (n : Nat) (ls : List (List Int)) : Prop :=
  ls.length = n ∧ (0 < n → ∃ b off, A = some ⟨b, off, none⟩ ∧ b < B ∧ ∀ (j : Nat) (l : List Int), ls[j]? = some l → ∃ A' n' c', w.cell? ⟨b, off + j, none⟩ = some (.slice A' n' c') ∧ n' ≤ 17592186044416 ∧ IntsAt w B A' n' l)
theorem IRowsAt.below {w w' : World} {B n : Nat} {A : Option Addr} {ls : List (List Int)} (h : IRowsAt w B A n ls) (hb : Below B w w') : IRowsAt w' B A n ls :=
  ⟨h.1, fun hn => by
    obtain ⟨b, off, e, h1, h2⟩ := h.2 hn
    refine ⟨b, off, e, h1, fun j l hl => ?_⟩
    obtain ⟨A', n', c', h3, h4, h5⟩ := h2 j l hl
    exact ⟨A', n', c', (hb.cell (p := ⟨b, off + j, none⟩) h1).trans h3, h4, h5.below hb⟩⟩
theorem IRowsAt.get {w : World} {B n b off : Nat} {ls : List (List Int)} (h : IRowsAt w B (some ⟨b, off, none⟩) n ls) {k : Nat} {l : List Int} (hl : ls[k]? = some l) : b < B ∧ ∃ A' n' c', w.cell? ⟨b, off + k, none⟩ = some (.slice A' n' c') ∧ n' ≤ 17592186044416 ∧ IntsAt w B A' n' l := by
  have h1 := (List.getElem?_eq_some_iff.1 hl).1
  obtain ⟨b', off', e, h2, h3⟩ := h.2 (by have := h.1; omega)
  injection e with e
  injection e with e1 e2
  subst e1 e2
  exact ⟨h2, h3 k l hl⟩
def inAll (x : Int) (ls : List (List Int)) : Bool := ls.all fun l => decide (x ∈ l)
theorem inAll_succ {x : Int} {ls : List (List Int)} {k : Nat} {l : List Int} (h : ls[k]? = some l) : inAll x (ls.take (k + 1)) = (inAll x (ls.take k) && decide (x ∈ l)) := by
  rw [List.take_add_one, h]
  simp [inAll]
theorem meetL_eq (l : List Int) (r : List (List Int)) : meetL (l :: r) = l.filter fun x => inAll x (l :: r) := by
  show (l.filter fun x => (l :: r).all (·.contains x)) = _
  congr 1
  funext x
  unfold inAll
  congr 1
  funext m
  exact List.contains_eq_mem _ _
end Go.Proofs.Ytamdejidkgnaeaa
