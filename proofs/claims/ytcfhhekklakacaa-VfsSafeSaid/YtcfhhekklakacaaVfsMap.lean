/-
  A map of names to files as a function: what a look-up tells, what a store and a delete make, how it is gone through.
-/
import Derived.Maps.OwnSet
import Derived.Maps.RangeWalk
import Derived.Test.YtcfhhekklakacaaBaseC
namespace Go.Proofs.Ytcfhhekklakacaa
open Go.RowKit Go.Maps Go.ChangeShapes Go.WideShapes
set_option linter.unusedVariables false
/-- a disk's names: each one's file, by its block -/
abbrev FM := List UInt8 → Option Nat
/-- how a pointer to a file reads -/
def Rf (v : Value) : Option (DataW Unit × List MemPlace) :=
  match v with
  | .pointer (some ⟨b, 0, none⟩) => some (.lit (.int .i64 (b : Int)), [])
  | .pointer none => some (.lit (.int .i64 (-1)), [])
  | _ => none
theorem Rf_some (b : Nat) : Rf (.pointer (some ⟨b, 0, none⟩)) = some (.lit (.int .i64 (b : Int)), []) := rfl
theorem Rf_inv {v : Value} {z : DataW Unit × List MemPlace} (h : Rf v = some z) : (∃ b : Nat, v = .pointer (some ⟨b, 0, none⟩) ∧ z = (.lit (.int .i64 (b : Int)), [])) ∨ (v = .pointer none ∧ z = (.lit (.int .i64 (-1)), [])) := by
  unfold Rf at h
  split at h
  · next b => exact Or.inl ⟨b, rfl, by injection h with h; exact h.symm⟩
  · exact Or.inr ⟨rfl, by injection h with h; exact h.symm⟩
  · cases h
theorem str_law : Keyed Try.prog 9 := string_keyed Try.underlying9
theorem str_key (s : ByteArray) (hs : s.size ≤ maxLen) : keyOf Try.prog 9 (.string s) = some (.string s.data.toList) := WideMaps.keyOf_string_mk Try.underlying9 hs
theorem file_zero (w : World) : (zeroValue 53).run Try.prog w = .ok (.pointer none) w := by kernel_rfl
/-- block mb is the map M -/
def FMapAt (w : World) (mb n : Nat) (M : FM) : Prop :=
  ∃ D : DataW Unit, w.ownsMap Try.prog 9 Rf mb n D ∧ ∀ l : List UInt8, (∀ id, M l = some id → Maps.has D (.string l) = true ∧ ∀ z, D.atKey (.string l) z = .lit (.int .i64 (id : Int))) ∧ (M l = none → Maps.has D (.string l) = false)
section
variable {w w' : World} {mb n : Nat} {M : FM}
theorem FMapAt.lt (h : FMapAt w mb n M) : mb < w.heap.size := by
  obtain ⟨D, h1, -⟩ := h
  exact h1.lt
theorem FMapAt.kept (h : FMapAt w mb n M) (hk : w'.heap[mb]? = w.heap[mb]?) : FMapAt w' mb n M := by
  obtain ⟨D, ⟨es, clock, h1, h2⟩, h3⟩ := h
  exact ⟨D, ⟨es, clock, hk.trans h1, h2⟩, h3⟩
theorem FMapAt.keep {S : Nat → Prop} (h : FMapAt w mb n M) (hk : Keep S w w') (hS : ¬ S mb) : FMapAt w' mb n M := h.kept (hk.block mb h.lt hS)
theorem FMapAt.grow (h : FMapAt w mb n M) (hk : Grow w w') : FMapAt w' mb n M := h.kept (hk.block mb h.lt)
theorem FMapAt.more (h : FMapAt w mb n M) {n' : Nat} (hn : n ≤ n') : FMapAt w mb n' M := by
  obtain ⟨D, h1, h2⟩ := h
  exact ⟨D, h1.mono hn, h2⟩
theorem FMapAt.made (w : World) : FMapAt (w.alloc (.map #[] 0)) w.heap.size 0 (fun _ => none) :=
  ⟨_, World.ownsMap_made w _ _ _, fun l => ⟨fun id h => (by cases h), fun _ => rfl⟩⟩
/-- v, is := files[name] -/
theorem FMapAt.look (h : FMapAt w mb n M) (s : ByteArray) (hs : s.size ≤ maxLen) :
    (Instr.lookup 46 (.map (some mb)) (.string s) true).run Try.prog w = .ok (.tuple #[.pointer ((M s.data.toList).map fun id => ⟨id, 0, none⟩), .bool (M s.data.toList).isSome]) w := by
  obtain ⟨D, h1, h2⟩ := h
  obtain ⟨v, ps, hrun, hv⟩ := h1.look_ok str_law Try.underlying46 (file_zero w) (show Rf (.pointer none) = some (.lit (.int .i64 (-1)), []) from rfl) (str_key s hs)
  rw [hrun]
  cases hM : M s.data.toList with
  | none =>
    have h3 := (h2 s.data.toList).2 hM
    rw [h3]
    rw [Maps.atKey_of_not_has h3] at hv
    rcases Rf_inv hv with ⟨b, -, e⟩ | ⟨rfl, -⟩
    · exfalso
      simp only [Prod.mk.injEq, DataW.lit.injEq, Lit.int.injEq, true_and] at e
      omega
    · rfl
  | some id =>
    obtain ⟨h3, h4⟩ := (h2 s.data.toList).1 id hM
    rw [h3]
    rw [h4] at hv
    rcases Rf_inv hv with ⟨b, rfl, e⟩ | ⟨-, e⟩
    · simp only [Prod.mk.injEq, DataW.lit.injEq, Lit.int.injEq, true_and] at e
      obtain rfl : id = b := by omega
      rfl
    · exfalso
      simp only [Prod.mk.injEq, DataW.lit.injEq, Lit.int.injEq, true_and] at e
      omega
/-- a map with one name turned -/
def putF (M : FM) (l : List UInt8) (v : Option Nat) : FM := fun x => if x = l then v else M x
theorem putF_self (M : FM) (l : List UInt8) (v : Option Nat) : putF M l v l = v := by simp [putF]
theorem putF_ne (M : FM) {l x : List UInt8} (v : Option Nat) (h : x ≠ l) : putF M l v x = M x := by simp [putF, h]
/-- files[name] = f -/
theorem FMapAt.put (h : FMapAt w mb n M) (s : ByteArray) (hs : s.size ≤ maxLen) (hn : n < maxLen) (id : Nat) :
    ∃ w', (Instr.mapUpdate 46 (.map (some mb)) (.string s) (.pointer (some ⟨id, 0, none⟩))).run Try.prog w = .ok () w' ∧ FMapAt w' mb (n + 1) (putF M s.data.toList (some id)) ∧ Keep (fun j => j = mb) w w' := by
  obtain ⟨D, h1, h2⟩ := h
  obtain ⟨w', hrun, ho, ht⟩ := h1.store str_law Try.underlying46 hn (str_key s hs) (Rf_some id)
  refine ⟨w', hrun, ⟨_, ho, fun l => ?_⟩, (Keep.grown ht.grown).mono fun j hj => by injection hj with hj; exact Or.inl hj.symm⟩
  by_cases e : l = s.data.toList
  · subst e
    rw [putF_self]
    refine ⟨fun id' he => ?_, fun he => by cases he⟩
    injection he with he
    subst he
    have hkl : WideAt.IsKeyLit (.string s.data.toList) := trivial
    exact ⟨Maps.has_put_same h1.isMap hkl _, fun z => Maps.atKey_put_same h1.isMap hkl _ z⟩
  · have hne : (Lit.string l) ≠ Lit.string s.data.toList := fun h => e (by injection h)
    rw [putF_ne _ _ e]
    refine ⟨fun id' he => ?_, fun he => ?_⟩
    · obtain ⟨h3, h4⟩ := (h2 l).1 id' he
      exact ⟨by rw [Maps.has_put_other hne]; exact h3, fun z => by rw [Maps.atKey_put_other hne]; exact h4 z⟩
    · rw [Maps.has_put_other hne]
      exact (h2 l).2 he
/-- delete(files, name) -/
theorem FMapAt.del (h : FMapAt w mb n M) (s : ByteArray) (hs : s.size ≤ maxLen) (ty : TypeId) :
    ∃ w', (Builtin.delete_ #[46, 9] ty #[.map (some mb), .string s]).run Try.prog w = .ok (.tuple #[]) w' ∧ FMapAt w' mb n (putF M s.data.toList none) ∧ Keep (fun j => j = mb) w w' := by
  obtain ⟨D, h1, h2⟩ := h
  obtain ⟨w', hrun, ho, ht⟩ := h1.drop str_law Try.underlying46 (str_key s hs) ty
  refine ⟨w', hrun, ⟨_, ho, fun l => ?_⟩, (Keep.grown ht.grown).mono fun j hj => by injection hj with hj; exact Or.inl hj.symm⟩
  by_cases e : l = s.data.toList
  · subst e
    rw [putF_self]
    exact ⟨fun id' he => by (cases he), fun _ => Maps.has_del_same⟩
  · have hne : (Lit.string l) ≠ Lit.string s.data.toList := fun h => e (by injection h)
    rw [putF_ne _ _ e]
    refine ⟨fun id' he => ?_, fun he => ?_⟩
    · obtain ⟨h3, h4⟩ := (h2 l).1 id' he
      exact ⟨by rw [Maps.has_del_other hne]; exact h3, fun z => by rw [Maps.atKey_del_other hne]; exact h4 z⟩
    · rw [Maps.has_del_other hne]
      exact (h2 l).2 he
end
end Go.Proofs.Ytcfhhekklakacaa
