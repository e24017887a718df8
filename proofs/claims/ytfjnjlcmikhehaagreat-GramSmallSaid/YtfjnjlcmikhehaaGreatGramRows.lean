/-
  The map of grams and their places, as it is built: each gram's places lie in a row of their own.
-/
import Derived.Test.YtfjnjlcmikhehaaGreatGramMap
import Derived.Test.YtfjnjlcmikhehaaGreatBaseE
namespace Go.Proofs.YtfjnjlcmikhehaaGreat
open Go.RowKit GramM
set_option linter.unusedVariables false
/-- a place's cells; a gram's -/
def plC (l : List Nat) : List Value := l.flatMap fun i : Nat => [.int .i64 0, .int .i64 (i : Int)]
def grC (l : List Gr) : List Value := l.flatMap fun g => [b8 g.1, b8 g.2.1, b8 g.2.2]
theorem plC_snoc (l : List Nat) (i : Nat) : plC (l ++ [i]) = plC l ++ [.int .i64 0, .int .i64 (i : Int)] := by simp [plC]
theorem grC_snoc (l : List Gr) (g : Gr) : grC (l ++ [g]) = grC l ++ [b8 g.1, b8 g.2.1, b8 g.2.2] := by simp [grC]
/-- block Mp is the map of the grams ks, in the order in which they came; what stands at g owns the places f g -/
def MapOf (W : World) (base Mp : Nat) (ks : List Gr) (f : Gr → List Nat) : Prop :=
  ∃ es, GMapAt W Mp es ∧ es.map (·.1) = ks ∧ (∀ g v, (g, v) ∈ es → W.ownsRow base 44 2 v (f g).length (plC (f g))) ∧
    (∀ g v g' v' b, (g, v) ∈ es → (g', v') ∈ es → g ≠ g' → v.ownBlock = some b → v'.ownBlock ≠ some b)
section
variable {W W1 W2 : World} {base Mp : Nat} {ks : List Gr} {f f' : Gr → List Nat}
theorem MapOf.lt (h : MapOf W base Mp ks f) : Mp < W.heap.size := by
  obtain ⟨es, h1, -⟩ := h
  exact h1.lt
theorem MapOf.keep {S : Nat → Prop} (h : MapOf W base Mp ks f) (hk : Keep S W W1) (hM : ¬ S Mp) (hS : ∀ j cs, S j → W.heap[j]? ≠ some (.cells cs 44 (0, 0))) : MapOf W1 base Mp ks f := by
  obtain ⟨es, h1, h2, h3, h4⟩ := h
  refine ⟨es, h1.keep hk hM, h2, fun g v hm => hk.own (h3 g v hm) fun b hb hs => ?_, h4⟩
  obtain ⟨cs, hc⟩ := own_obj (h3 g v hm) hb
  exact hS b cs hs hc
theorem MapOf.grow (h : MapOf W base Mp ks f) (hk : Grow W W1) : MapOf W1 base Mp ks f := h.keep (Keep.grow (S := fun _ => False) hk) (fun h => h) fun _ _ h => h.elim
theorem MapOf.congr (h : MapOf W base Mp ks f) {ks'} (h1 : ks = ks') (h2 : ∀ g ∈ ks, f g = f' g) : MapOf W base Mp ks' f' := by
  obtain ⟨es, h3, h4, h5, h6⟩ := h
  refine ⟨es, h3, h4.trans h1, fun g v hm => ?_, h6⟩
  have hg : g ∈ ks := by
    rw [← h4]
    exact List.mem_map.2 ⟨_, hm, rfl⟩
  have := h5 g v hm
  rwa [h2 g hg] at this
/-- a gram that is not known -/
theorem MapOf.miss (h : MapOf W base Mp ks f) {g : Gr} (hg : g ∉ ks) : (Instr.lookup 46 (.map (some Mp)) (gv g) true).run Tryz.prog W = .ok (.tuple #[.slice none 0 0, .bool false]) W := by
  obtain ⟨es, h1, h2, h3, h4⟩ := h
  have h5 : atG es g = none := atG_none.2 (by rw [h2]; exact hg)
  have h6 := run_lookup_gram h1 g true
  rw [h5] at h6
  exact h6
/-- one that is -/
theorem MapOf.hit (h : MapOf W base Mp ks f) {g : Gr} (hg : g ∈ ks) : ∃ v, (∀ W' ok, Grow W W' → (Instr.lookup 46 (.map (some Mp)) (gv g) ok).run Tryz.prog W' = .ok (if ok then .tuple #[v, .bool true] else v) W') ∧ W.ownsRow base 44 2 v (f g).length (plC (f g)) ∧
    (∀ W1 v1, W1.ownsRow base 44 2 v1 (f' g).length (plC (f' g)) → Keep (fun j => v.ownBlock = some j) W W1 → (∀ b, v1.ownBlock = some b → v.ownBlock = some b ∨ W.heap.size ≤ b) → (∀ h, h ≠ g → f' h = f h) →
      ∃ W2, (Instr.mapUpdate 46 (.map (some Mp)) (gv g) v1).run Tryz.prog W1 = .ok () W2 ∧ MapOf W2 base Mp ks f' ∧ Keep (fun j => j = Mp) W1 W2) := by
  obtain ⟨es, h1, h2, h3, h4⟩ := h
  rw [← h2] at hg
  obtain ⟨⟨g0, v⟩, hm, rfl⟩ := List.mem_map.1 hg
  have hn : (es.map (·.1)).Nodup := by
    obtain ⟨_, _, _, _, hn⟩ := h1
    exact hn
  have h5 : atG es g0 = some v := atG_of hn hm
  refine ⟨v, fun W' ok hgw => ?_, h3 g0 v hm, fun W1 v1 ho hk hb hf => ?_⟩
  · have h6 := run_lookup_gram (h1.keep (Keep.grow (S := fun _ => False) hgw) (fun h => h)) g0 ok
    rw [h5] at h6
    exact h6
  · have hMv : ¬ v.ownBlock = some Mp := fun e => by
      obtain ⟨cs, hc⟩ := own_obj (h3 g0 v hm) e
      obtain ⟨arr, cl, q, -⟩ := h1
      rw [hc] at q
      cases q
    have h1' := h1.keep hk hMv
    obtain ⟨W2, hr, hg2, hk2⟩ := run_update_gram h1' g0 v1
    have hmem : ∀ g u, (g, u) ∈ putG es g0 v1 → (g = g0 ∧ u = v1) ∨ (g ≠ g0 ∧ (g, u) ∈ es) := fun g u hm2 => by
      unfold putG at hm2
      rw [if_pos hg] at hm2
      obtain ⟨p, hp, he⟩ := List.mem_map.1 hm2
      by_cases hpg : p.1 = g0
      · rw [if_pos hpg] at he
        injection he with e1 e2
        exact Or.inl ⟨e1.symm, e2.symm⟩
      · rw [if_neg hpg] at he
        rw [he] at hp hpg
        exact Or.inr ⟨hpg, hp⟩
    have hMv1 : ∀ b, v1.ownBlock = some b → b ≠ Mp := fun b hb1 e => by
      rcases hb b hb1 with q | q
      · exact hMv (e ▸ q)
      · have := h1.lt
        omega
    have hother : ∀ g u, g ≠ g0 → (g, u) ∈ es → W1.ownsRow base 44 2 u (f g).length (plC (f g)) := fun g u hne hmu => hk.own (h3 g u hmu) fun b hb1 hb2 => h4 g u g0 v b hmu hm hne hb1 hb2
    refine ⟨W2, hr, ⟨putG es g0 v1, hg2, ?_, fun g u hm2 => ?_, fun g u g' u' b hm2 hm2' hne hb1 hb2 => ?_⟩, hk2⟩
    · rw [putG_keys, if_pos hg, h2]
    · rcases hmem g u hm2 with ⟨rfl, rfl⟩ | ⟨hne, hmu⟩
      · exact hk2.own ho fun b hb1 => hMv1 b hb1
      · rw [hf g hne]
        refine hk2.own (hother g u hne hmu) fun b hb1 e => ?_
        obtain ⟨cs, hc⟩ := own_obj (h3 g u hmu) hb1
        obtain ⟨arr, cl, q, -⟩ := h1
        rw [← e, hc] at q
        cases q
    · rcases hmem g u hm2 with ⟨rfl, rfl⟩ | ⟨hne1, hmu⟩
      · rcases hmem g' u' hm2' with ⟨rfl, rfl⟩ | ⟨hne2, hmu'⟩
        · exact hne rfl
        · rcases hb b hb1 with q | q
          · exact h4 g v g' u' b hm hmu' hne q hb2
          · have := ((h3 g' u' hmu').lt b hb2).2
            omega
      · rcases hmem g' u' hm2' with ⟨rfl, rfl⟩ | ⟨hne2, hmu'⟩
        · rcases hb b hb2 with q | q
          · exact h4 g u g' v b hmu hm hne hb1 q
          · have := ((h3 g u hmu).lt b hb1).2
            omega
        · exact h4 g u g' u' b hmu hmu' hne hb1 hb2
/-- a new gram -/
theorem MapOf.add (h : MapOf W base Mp ks f) {g : Gr} (hg : g ∉ ks) {v1 : Value} (ho : W1.ownsRow base 44 2 v1 (f' g).length (plC (f' g))) (hk : Grow W W1) (hb : ∀ b, v1.ownBlock = some b → W.heap.size ≤ b) (hf : ∀ h, h ≠ g → f' h = f h) :
    ∃ W2, (Instr.mapUpdate 46 (.map (some Mp)) (gv g) v1).run Tryz.prog W1 = .ok () W2 ∧ MapOf W2 base Mp (ks ++ [g]) f' ∧ Keep (fun j => j = Mp) W1 W2 := by
  have h' := h.grow hk
  have hlt := h.lt
  obtain ⟨es, h1, h2, h3, h4⟩ := h
  obtain ⟨es1, h1', h2', h3', h4'⟩ := h'
  have hk0 : Keep (fun _ => False) W W1 := Keep.grow hk
  have h1' := h1.keep hk0 (fun h => h)
  obtain ⟨W2, hr, hg2, hk2⟩ := run_update_gram h1' g v1
  have hgn : g ∉ es.map (·.1) := by rw [h2]; exact hg
  have hput : putG es g v1 = es ++ [(g, v1)] := by
    unfold putG
    rw [if_neg hgn]
  have hne : ∀ g' u, (g', u) ∈ es → g' ≠ g := fun g' u hm e => hgn (e ▸ List.mem_map.2 ⟨_, hm, rfl⟩)
  rw [hput] at hg2
  refine ⟨W2, hr, ⟨_, hg2, by simp [h2], fun g' u hm => ?_, fun g1 u1 g2 u2 b hm1 hm2 hn hb1 hb2 => ?_⟩, hk2⟩
  · rcases List.mem_append.1 hm with hm | hm
    · rw [hf g' (hne g' u hm)]
      refine hk2.own (hk0.own (h3 g' u hm) fun _ _ h => h) fun b hb1 e => ?_
      obtain ⟨cs, hc⟩ := own_obj (h3 g' u hm) hb1
      obtain ⟨arr, cl, q, -⟩ := h1
      rw [← e, hc] at q
      cases q
    · have e := List.mem_singleton.1 hm
      injection e with e1 e2
      subst e1 e2
      exact hk2.own ho fun b hb1 e => by
        have := hb b hb1
        omega
  · rcases List.mem_append.1 hm1 with q1 | q1
    · rcases List.mem_append.1 hm2 with q2 | q2
      · exact h4 _ _ _ _ b q1 q2 hn hb1 hb2
      · have e := List.mem_singleton.1 q2
        injection e with e1 e2
        subst e1 e2
        have := hb b hb2
        have := ((h3 _ _ q1).lt b hb1).2
        omega
    · have e := List.mem_singleton.1 q1
      injection e with e1 e2
      subst e1 e2
      rcases List.mem_append.1 hm2 with q2 | q2
      · have := hb b hb1
        have := ((h3 _ _ q2).lt b hb2).2
        omega
      · have e := List.mem_singleton.1 q2
        injection e with e1 e2
        exact hn e1.symm
end
end Go.Proofs.YtfjnjlcmikhehaaGreat
