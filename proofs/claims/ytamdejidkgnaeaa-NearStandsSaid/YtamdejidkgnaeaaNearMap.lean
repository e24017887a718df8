/-
  The map of texts and their places, as it is built: each text's places lie in a row of their own.
-/
import Derived.Maps.OwnSet
import Derived.Maps.RangeWalk
import Derived.Test.YtamdejidkgnaeaaBaseE
import Derived.Test.YtamdejidkgnaeaaNearMath
namespace Go.Proofs.Ytamdejidkgnaeaa
open Go.RowKit Go.Maps Go.ChangeShapes Go.WideShapes NearM
set_option linter.unusedVariables false
/-- a row of places: its block, its length, its room -/
abbrev Sl := Nat × Nat × Nat
def slV (s : Sl) : Value := .slice (some ⟨s.1, 0, none⟩) s.2.1 s.2.2
def slD (s : Sl) : DataW Unit := .agg [.lit (.int .i64 (s.1 : Int)), .lit (.int .i64 (s.2.1 : Int)), .lit (.int .i64 (s.2.2 : Int))]
/-- how such a row's value reads -/
def Rs (v : Value) : Option (DataW Unit × List MemPlace) :=
  match v with
  | .slice (some ⟨b, 0, none⟩) n c => some (slD (b, n, c), [])
  | .slice none 0 0 => some (.nil, [])
  | _ => none
theorem Rs_some (s : Sl) : Rs (slV s) = some (slD s, []) := rfl
theorem slD_inj {s t : Sl} (h : slD s = slD t) : s = t := by
  unfold slD at h
  simp only [DataW.agg.injEq, List.cons.injEq, DataW.lit.injEq, Lit.int.injEq, true_and, and_true] at h
  obtain ⟨h1, h2, h3⟩ := h
  exact Prod.ext (by omega) (Prod.ext (by omega) (by omega))
theorem Rs_inv {v : Value} {z : DataW Unit × List MemPlace} (h : Rs v = some z) : (∃ s, v = slV s ∧ z = (slD s, [])) ∨ (v = .slice none 0 0 ∧ z = (.nil, [])) := by
  unfold Rs at h
  split at h
  · next b n c => exact Or.inl ⟨(b, n, c), rfl, by injection h with h; exact h.symm⟩
  · exact Or.inr ⟨rfl, by injection h with h; exact h.symm⟩
  · cases h
theorem nstr_law : Keyed Try.prog 9 := string_keyed Try.underlying9
theorem nstr_key (s : ByteArray) (hs : s.size ≤ maxLen) : keyOf Try.prog 9 (.string s) = some (.string s.data.toList) := WideMaps.keyOf_string_mk Try.underlying9 hs
theorem places_zero (w : World) : (zeroValue 30).run Try.prog w = .ok (.slice none 0 0) w := by kernel_rfl
abbrev SM := List UInt8 → Option Sl
/-- block mb is the map M -/
def SMapAt (w : World) (mb n : Nat) (M : SM) : Prop :=
  ∃ D : DataW Unit, w.ownsMap Try.prog 9 Rs mb n D ∧ ∀ l : List UInt8, (∀ s, M l = some s → Maps.has D (.string l) = true ∧ ∀ z, D.atKey (.string l) z = slD s) ∧ (M l = none → Maps.has D (.string l) = false)
def putS (M : SM) (l : List UInt8) (v : Option Sl) : SM := fun x => if x = l then v else M x
theorem putS_self (M : SM) (l : List UInt8) (v : Option Sl) : putS M l v l = v := by simp [putS]
theorem putS_ne (M : SM) {l x : List UInt8} (v : Option Sl) (h : x ≠ l) : putS M l v x = M x := by simp [putS, h]
section
variable {w w' : World} {mb n : Nat} {M : SM}
theorem SMapAt.lt (h : SMapAt w mb n M) : mb < w.heap.size := by
  obtain ⟨D, h1, -⟩ := h
  exact h1.lt
theorem SMapAt.kept (h : SMapAt w mb n M) (hk : w'.heap[mb]? = w.heap[mb]?) : SMapAt w' mb n M := by
  obtain ⟨D, ⟨es, clock, h1, h2⟩, h3⟩ := h
  exact ⟨D, ⟨es, clock, hk.trans h1, h2⟩, h3⟩
theorem SMapAt.keep {S : Nat → Prop} (h : SMapAt w mb n M) (hk : Keep S w w') (hS : ¬ S mb) : SMapAt w' mb n M := h.kept (hk.block mb h.lt hS)
theorem SMapAt.made (w : World) : SMapAt (w.alloc (.map #[] 0)) w.heap.size 0 (fun _ => none) :=
  ⟨_, World.ownsMap_made w _ _ _, fun l => ⟨fun s h => (by cases h), fun _ => rfl⟩⟩
theorem SMapAt.obj (h : SMapAt w mb n M) : ∃ es clock, w.heap[mb]? = some (.map es clock) := by
  obtain ⟨D, ⟨es, clock, h1, -⟩, -⟩ := h
  exact ⟨es, clock, h1⟩
/-- places[g] -/
theorem SMapAt.look (h : SMapAt w mb n M) (s : ByteArray) (hs : s.size ≤ maxLen) :
    (Instr.lookup 38 (.map (some mb)) (.string s) false).run Try.prog w = .ok (((M s.data.toList).map slV).getD (.slice none 0 0)) w := by
  obtain ⟨D, h1, h2⟩ := h
  obtain ⟨v, ps, hrun, hv⟩ := h1.lookup nstr_law Try.underlying38 (places_zero w) (show Rs (.slice none 0 0) = some (.nil, []) from rfl) (nstr_key s hs)
  rw [hrun]
  cases hM : M s.data.toList with
  | none =>
    have h3 := (h2 s.data.toList).2 hM
    rw [Maps.atKey_of_not_has h3] at hv
    rcases Rs_inv hv with ⟨t, -, e⟩ | ⟨rfl, -⟩
    · cases e
    · rfl
  | some t =>
    obtain ⟨h3, h4⟩ := (h2 s.data.toList).1 t hM
    rw [h4] at hv
    rcases Rs_inv hv with ⟨t', rfl, e⟩ | ⟨-, e⟩
    · obtain rfl : t = t' := slD_inj (congrArg Prod.fst e)
      rfl
    · cases e
/-- places[g] = l -/
theorem SMapAt.put (h : SMapAt w mb n M) (s : ByteArray) (hs : s.size ≤ maxLen) (hn : n < maxLen) (t : Sl) :
    ∃ w', (Instr.mapUpdate 38 (.map (some mb)) (.string s) (slV t)).run Try.prog w = .ok () w' ∧ SMapAt w' mb (n + 1) (putS M s.data.toList (some t)) ∧ Keep (fun j => j = mb) w w' := by
  obtain ⟨D, h1, h2⟩ := h
  obtain ⟨w', hrun, ho, ht⟩ := h1.store nstr_law Try.underlying38 hn (nstr_key s hs) (Rs_some t)
  refine ⟨w', hrun, ⟨_, ho, fun l => ?_⟩, (Keep.grown ht.grown).mono fun j hj => by injection hj with hj; exact Or.inl hj.symm⟩
  by_cases e : l = s.data.toList
  · subst e
    rw [putS_self]
    refine ⟨fun t' he => ?_, fun he => by cases he⟩
    injection he with he
    subst he
    have hkl : WideAt.IsKeyLit (.string s.data.toList) := trivial
    exact ⟨Maps.has_put_same h1.isMap hkl _, fun z => Maps.atKey_put_same h1.isMap hkl _ z⟩
  · have hne : (Lit.string l) ≠ Lit.string s.data.toList := fun h => e (by injection h)
    rw [putS_ne _ _ e]
    refine ⟨fun t' he => ?_, fun he => ?_⟩
    · obtain ⟨h3, h4⟩ := (h2 l).1 t' he
      exact ⟨by rw [Maps.has_put_other hne]; exact h3, fun z => by rw [Maps.atKey_put_other hne]; exact h4 z⟩
    · rw [Maps.has_put_other hne]
      exact (h2 l).2 he
end
/-- the cells of places -/
def plCs (l : List Pl) : List Value := l.flatMap fun p => [.int .i64 (p.1 : Int), .int .i64 (p.2 : Int)]
theorem plCs_snoc (l : List Pl) (p : Pl) : plCs (l ++ [p]) = plCs l ++ [.int .i64 (p.1 : Int), .int .i64 (p.2 : Int)] := by simp [plCs]
theorem plCs_len (l : List Pl) : (plCs l).length = l.length * 2 := by
  induction l with
  | nil => rfl
  | cons p l ih => simp only [plCs, List.flatMap_cons, List.length_append, List.length_cons, List.length_nil] at ih ⊢; omega
/-- block mb is the map of what stands in the rows f -/
structure PMap (W : World) (base mb n : Nat) (M : SM) (f : List UInt8 → List Pl) : Prop where
  map : SMapAt W mb n M
  ge : base ≤ mb
  none_ : ∀ g, M g = none ↔ f g = []
  row : ∀ g s, M g = some s → W.ownsRow base 33 2 (slV s) (f g).length (plCs (f g))
  apart : ∀ g s g' s', M g = some s → M g' = some s' → g ≠ g' → s.1 ≠ s'.1
section
variable {W W1 W2 : World} {base mb n : Nat} {M : SM} {f : List UInt8 → List Pl}
theorem PMap.keep (h : PMap W base mb n M f) {S : Nat → Prop} (hk : Keep S W W1) (hM : ¬ S mb) (hS : ∀ j cs, S j → W.heap[j]? ≠ some (.cells cs 33 (0, 0))) : PMap W1 base mb n M f :=
  ⟨h.map.keep hk hM, h.ge, h.none_, fun g s hs => hk.own (h.row g s hs) fun b hb hsb => by
    obtain ⟨cs, hc⟩ := own_obj (h.row g s hs) hb
    exact hS b cs hsb hc, h.apart⟩
theorem PMap.grow (h : PMap W base mb n M f) (hk : Grow W W1) : PMap W1 base mb n M f := h.keep (Keep.grow (S := fun _ => False) hk) (fun h => h) fun _ _ h => h.elim
/-- a row that has got one place more is laid behind its text -/
theorem PMap.put (h : PMap W base mb n M f) {g : List UInt8} {s : ByteArray} (hsg : s.data.toList = g) (hs : s.size ≤ maxLen) (hn : n < maxLen) {p : Pl} {v : Value} (ho : W1.ownsRow base 33 2 v (f g ++ [p]).length (plCs (f g ++ [p])))
    (hk : Keep (fun j => ((M g).map fun t => t.1) = some j) W W1) (hv : ∀ b, v.ownBlock = some b → ((M g).map fun t => t.1) = some b ∨ W.heap.size ≤ b) :
    ∃ t W2, v = slV t ∧ (Instr.mapUpdate 38 (.map (some mb)) (.string s) v).run Try.prog W1 = .ok () W2 ∧ PMap W2 base mb (n + 1) (putS M g (some t)) (fun x => if x = g then f g ++ [p] else f x) ∧ Keep (fun j => j = mb) W1 W2 := by
  subst hsg
  obtain ⟨b, c, rfl, hb, -, -, -⟩ := own_slice ho (by simp)
  have hMb : ∀ t, M s.data.toList = some t → t.1 ≠ mb := fun t ht e => by
    obtain ⟨cs, hc⟩ := own_obj (h.row _ t ht) (show (slV t).ownBlock = some t.1 from rfl)
    obtain ⟨es, cl, q⟩ := h.map.obj
    rw [e, q] at hc
    cases hc
  have hm1 : SMapAt W1 mb n M := h.map.keep hk (fun e => by
    cases ht : M s.data.toList with
    | none => rw [ht] at e; cases e
    | some t =>
      rw [ht] at e
      injection e with e
      exact hMb t ht e)
  have hbm : b ≠ mb := fun e => by
    rcases hv b rfl with q | q
    · cases ht : M s.data.toList with
      | none => rw [ht] at q; cases q
      | some t =>
        rw [ht] at q
        injection q with q
        exact hMb t ht (q.trans e)
    · have := h.map.lt
      omega
  obtain ⟨W2, hr, hm2, hk2⟩ := hm1.put s hs hn (b, (f s.data.toList ++ [p]).length, c)
  have hoth : ∀ x t, x ≠ s.data.toList → M x = some t → t.1 ≠ b ∧ W1.ownsRow base 33 2 (slV t) (f x).length (plCs (f x)) := fun x t hx ht => by
    have hrow := h.row x t ht
    refine ⟨fun e => ?_, hk.own hrow fun j hj e => ?_⟩
    · rcases hv b rfl with q | q
      · cases hg : M s.data.toList with
        | none => rw [hg] at q; cases q
        | some t' =>
          rw [hg] at q
          injection q with q
          exact h.apart x t _ t' ht hg hx (e.trans q.symm)
      · have := (hrow.lt t.1 rfl).2
        omega
    · have hj : t.1 = j := by
        have hj : (some t.1 : Option Nat) = some j := hj
        injection hj
      cases hg : M s.data.toList with
      | none => rw [hg] at e; cases e
      | some t' =>
        rw [hg] at e
        injection e with e
        exact h.apart x t _ t' ht hg hx (hj.trans e.symm)
  refine ⟨_, W2, rfl, hr, ⟨hm2, h.ge, fun x => ?_, fun x t ht => ?_, fun x t x' t' ht ht' hne e => ?_⟩, hk2⟩
  · by_cases e : x = s.data.toList
    · subst e
      rw [putS_self]
      simp
    · rw [putS_ne _ _ e]
      simp only [e, if_false]
      exact h.none_ x
  · by_cases e : x = s.data.toList
    · subst e
      rw [putS_self] at ht
      injection ht with ht
      subst ht
      simp only [if_true]
      refine hk2.own ho fun j hj e => hbm ?_
      exact (Option.some.inj (show some b = some j from hj)).trans e
    · rw [putS_ne _ _ e] at ht
      simp only [e, if_false]
      obtain ⟨-, hrow⟩ := hoth x t e ht
      refine hk2.own hrow fun j hj e2 => ?_
      obtain ⟨cs, hc⟩ := own_obj hrow hj
      obtain ⟨es, cl, q⟩ := hm1.obj
      have e2 : j = mb := e2
      rw [e2, q] at hc
      cases hc
  · by_cases e1 : x = s.data.toList
    · rw [e1, putS_self] at ht
      injection ht with ht
      by_cases e2 : x' = s.data.toList
      · exact hne (e1.trans e2.symm)
      · rw [putS_ne _ _ e2] at ht'
        exact (hoth x' t' e2 ht').1 (by rw [← e, ← ht])
    · rw [putS_ne _ _ e1] at ht
      by_cases e2 : x' = s.data.toList
      · rw [e2, putS_self] at ht'
        injection ht' with ht'
        exact (hoth x t e1 ht).1 (by rw [e, ← ht'])
      · rw [putS_ne _ _ e2] at ht'
        exact h.apart x t x' t' ht ht' hne e
end
end Go.Proofs.Ytamdejidkgnaeaa
