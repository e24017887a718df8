/-
  Words for mudlarkkit's flat..: rows that lie apart, each owned, listed in a table; each is marked, grown, marked again. e: the elements' type (of one cell), tt: the rows' type, mk: the mark of a place. No program is in sight.
-/
import Derived.Test.YtbbjeokecgnfpaaGreatAppendTwo
import Derived.Test.YtbbjeokecgnfpaaGreatDist
namespace Go.Proofs.YtbbjeokecgnfpaaGreat
open Go.RowKit

/-- the marks of row k -/
def marksV (mk : Nat → Nat → Value) (k n : Nat) : List Value := (List.range n).map (mk k)
theorem marksV_length (mk : Nat → Nat → Value) (k n : Nat) : (marksV mk k n).length = n := by simp [marksV]
theorem marksV_get (mk : Nat → Nat → Value) {k n j : Nat} (h : j < n) : (marksV mk k n)[j]? = some (mk k j) := by simp [marksV, h]
theorem marksV_succ (mk : Nat → Nat → Value) (k n : Nat) : marksV mk k (n + 1) = marksV mk k n ++ [mk k n] := by simp [marksV, List.range_succ]
theorem marksV_take (mk : Nat → Nat → Value) (k : Nat) {n m : Nat} (h : n ≤ m) : (marksV mk k m).take n = marksV mk k n := by
  simp [marksV, ← List.map_take, List.take_range, Nat.min_eq_left h]
theorem marksV_of {mk : Nat → Nat → Value} {k n : Nat} {L : List Value} (hl : L.length = n) (h : ∀ q, q < n → L[q]? = some (mk k q)) : L = marksV mk k n := by
  refine List.ext_getElem? fun q => ?_
  rcases Nat.lt_or_ge q n with h1 | h1
  · rw [h q h1, marksV_get mk h1]
  · rw [List.getElem?_eq_none (by omega), List.getElem?_eq_none (by rw [marksV_length]; exact h1)]

theorem own_cell {w : World} {base e g n cap : Nat} {xs : List Value} (h : w.ownsRow base e 1 (.slice (some ⟨g, 0, none⟩) n cap) n xs) {j : Nat} {u : Value} (hj : xs[j]? = some u) : w.cell? ⟨g, j, none⟩ = some u := by
  have := h.cells (g := g) rfl j u hj
  have e : (⟨g, 0, none⟩ : Addr).add j = ⟨g, j, none⟩ := by unfold Addr.add; split <;> simp_all
  rw [e] at this
  exact this
theorem own_free {w : World} {base e size g n cap : Nat} {xs : List Value} (h : w.ownsRow base e size (.slice (some ⟨g, 0, none⟩) n cap) n xs) (j : Nat) : w.frozen? ⟨g, j, none⟩ = false := by
  obtain ⟨cur, hc⟩ := own_obj h rfl
  simp [World.frozen?, hc]
theorem own_types {w : World} {base base' e e' size size' n n' b : Nat} {v v' : Value} {xs xs' : List Value} (h : w.ownsRow base e size v n xs) (h' : w.ownsRow base' e' size' v' n' xs') (hb : v.ownBlock = some b) (hb' : v'.ownBlock = some b) : e = e' := by
  obtain ⟨cur, hc⟩ := own_obj h hb
  obtain ⟨cur', hc'⟩ := own_obj h' hb'
  rw [hc] at hc'
  injection hc' with hc'
  injection hc' with _ hc'
theorem own_type_blk {w : World} {base e size n b t : Nat} {v : Value} {xs : List Value} {cs : Array Value} (h : w.ownsRow base e size v n xs) (hb : v.ownBlock = some b) (hk : Blk w b t cs) : e = t := by
  obtain ⟨cur, hc⟩ := own_obj h hb
  unfold Blk at hk
  rw [hc] at hk
  injection hk with hk
  injection hk with _ hk

section
variable {e tt : TypeId} {mk : Nat → Nat → Value}

/-- while the rows are marked: rows ahead of k are, row k is up to i -/
structure Ph1 (e tt : TypeId) (mk : Nat → Nat → Value) (w0 w : World) (B Bt : Nat) (A : Option Addr) (m c : Nat) (vs : List Value) (N : Nat → Nat) (k i : Nat) : Prop where
  tab : w.ownsRow Bt tt 1 (.slice A m c) m vs
  own : ∀ (j : Nat) (v : Value), vs[j]? = some v → ∃ L, w.ownsRow B e 1 v (N j) L ∧ ∀ q, q < N j → (j < k ∨ (j = k ∧ q < i)) → L[q]? = some (mk j q)
  keep : Keep (OwnS vs) w0 w

variable {w0 w w' : World} {B Bt : Nat} {A : Option Addr} {m c : Nat} {vs : List Value} {N : Nat → Nat} {k i : Nat}
theorem Ph1.tab_ne (h : Ph1 e tt mk w0 w B Bt A m c vs N k i) (hne : e ≠ tt) {b : Nat} (hb : OwnS vs b) : (Value.slice A m c).ownBlock ≠ some b := fun hA => by
  obtain ⟨j, v, hv, hvb⟩ := hb
  obtain ⟨L, hL, _⟩ := h.own j v hv
  exact hne (own_types hL h.tab hvb hA)
theorem Ph1.grow (h : Ph1 e tt mk w0 w B Bt A m c vs N k i) (hg : Grow w w') : Ph1 e tt mk w0 w' B Bt A m c vs N k i :=
  ⟨own_below h.tab hg, fun j v hv => by
    obtain ⟨L, h1, h2⟩ := h.own j v hv
    exact ⟨L, own_below h1 hg, h2⟩, h.keep.trans' (Keep.grow hg)⟩
theorem Ph1.row (h : Ph1 e tt mk w0 w B Bt A m c vs N k (N k)) : Ph1 e tt mk w0 w B Bt A m c vs N (k + 1) 0 :=
  ⟨h.tab, fun j v hv => by
    obtain ⟨L, h1, h2⟩ := h.own j v hv
    exact ⟨L, h1, fun q hq hj => h2 q hq (by rcases hj with hj | ⟨_, hj⟩
                                             · rcases Nat.lt_or_ge j k with h3 | h3
                                               · exact Or.inl h3
                                               · obtain rfl : j = k := by omega
                                                 exact Or.inr ⟨rfl, hq⟩
                                             · omega)⟩, h.keep⟩
theorem Ph1.store (h : Ph1 e tt mk w0 w B Bt A m c vs N k i) (hne : e ≠ tt) (hd : DistV vs) {b cap : Nat} (hv : vs[k]? = some (.slice (some ⟨b, 0, none⟩) (N k) cap)) (hi : i < N k) :
    Ph1 e tt mk w0 (w.setCell ⟨b, i, none⟩ (mk k i)) B Bt A m c vs N k (i + 1) := by
  have hk : Keep (fun j => j = b) w (w.setCell ⟨b, i, none⟩ (mk k i)) := Keep.setCell w ⟨b, i, none⟩ _
  have hS : OwnS vs b := ⟨k, _, hv, rfl⟩
  refine ⟨hk.own h.tab fun j hj hjb => h.tab_ne hne hS (by rw [hj, hjb]), fun j v hj => ?_, h.keep.trans' (hk.mono fun j hj => Or.inl (by rw [hj]; exact hS))⟩
  obtain ⟨L, h1, h2⟩ := h.own j v hj
  by_cases hjk : j = k
  · subst hjk
    rw [hv] at hj
    cases hj
    refine ⟨L.set i (mk j i), (h1.stored i (mk j i)).1, fun q hq hj => ?_⟩
    have hl : L.length = N j := by have := h1.1; omega
    by_cases hqi : q = i
    · subst hqi
      rw [List.getElem?_set_self (by omega)]
    · rw [List.getElem?_set_ne (by omega)]
      exact h2 q hq (by omega)
  · refine ⟨L, hk.own h1 fun b' hb' hbb => hd j k _ _ b hj hv hjk (by rw [hb', hbb]) rfl, fun q hq hj' => h2 q hq (by omega)⟩

/-- behind the marking: the rows are marked, gs is the table of what has grown of them -/
structure FB (e tt : TypeId) (mk : Nat → Nat → Value) (w0 w : World) (B Bt : Nat) (A : Option Addr) (m c : Nat) (vs : List Value) (N : Nat → Nat) (H0 q : Nat) (gs : List Value) : Prop where
  tab : w.ownsRow Bt tt 1 (.slice A m c) m vs
  own : ∀ (j : Nat) (v : Value), vs[j]? = some v → w.ownsRow B e 1 v (N j) (marksV mk j (N j))
  gtab : Blk w q tt gs.toArray
  glen : gs.length = m
  keep : Keep (OwnS vs) w0 w
  h0 : w0.heap.size ≤ H0
  hz : H0 ≤ w.heap.size
  hq : H0 ≤ q
  low : ∀ b, OwnS vs b → b < H0
  tlow : ∀ b, (Value.slice A m c).ownBlock = some b → b < H0
/-- the first k of gs: each has its row's marks, and X more; where they lie -/
structure GP (e : TypeId) (mk : Nat → Nat → Value) (w : World) (B : Nat) (vs gs : List Value) (N : Nat → Nat) (H0 k X : Nat) : Prop where
  own : ∀ (j : Nat) (g : Value), j < k → gs[j]? = some g → ∃ L, w.ownsRow B e 1 g (N j + 64) L ∧ ∀ q, q < N j + X → L[q]? = some (mk j q)
  home : ∀ (j : Nat) (g : Value) (b : Nat), j < k → gs[j]? = some g → g.ownBlock = some b → (∃ v, vs[j]? = some v ∧ v.ownBlock = some b) ∨ H0 ≤ b
  dist : ∀ (i j : Nat) (g g' : Value) (b : Nat), i < k → j < k → i ≠ j → gs[i]? = some g → gs[j]? = some g' → g.ownBlock = some b → g'.ownBlock ≠ some b
/-- where a value that grows of row k lies -/
def LocV (vs gs : List Value) (N : Nat → Nat) (H0 k : Nat) (g : Value) (n : Nat) : Prop :=
  (∃ b cap, g = .slice (some ⟨b, 0, none⟩) n cap ∧ vs[k]? = some (.slice (some ⟨b, 0, none⟩) (N k) cap)) ∨ (∀ b, g.ownBlock = some b → H0 ≤ b ∧ ∀ (j : Nat) (g' : Value), j < k → gs[j]? = some g' → g'.ownBlock ≠ some b)

variable {H0 q : Nat} {gs : List Value} {X : Nat}
theorem FB.grow (h : FB e tt mk w0 w B Bt A m c vs N H0 q gs) (hg : Grow w w') : FB e tt mk w0 w' B Bt A m c vs N H0 q gs :=
  ⟨own_below h.tab hg, fun j v hv => own_below (h.own j v hv) hg, h.gtab.below hg h.gtab.lt, h.glen, h.keep.trans' (Keep.grow hg), h.h0, Nat.le_trans h.hz hg.size, h.hq, h.low, h.tlow⟩
theorem GP.grow (h : GP e mk w B vs gs N H0 k X) (hg : Grow w w') : GP e mk w' B vs gs N H0 k X :=
  ⟨fun j g hj hgj => by
    obtain ⟨L, h1, h2⟩ := h.own j g hj hgj
    exact ⟨L, own_below h1 hg, h2⟩, h.home, h.dist⟩
theorem GP.turn (h : GP e mk w B vs gs N H0 k X) {x : Nat} (hk : Keep (fun b => b = x) w w') (hx : ∀ (j : Nat) (g : Value), j < k → gs[j]? = some g → g.ownBlock ≠ some x) : GP e mk w' B vs gs N H0 k X :=
  ⟨fun j g hj hgj => by
    obtain ⟨L, h1, h2⟩ := h.own j g hj hgj
    exact ⟨L, hk.own h1 fun b hb hbx => hx j g hj hgj (by rw [hb, hbx]), h2⟩, h.home, h.dist⟩
/-- a block of elements turns -/
theorem FB.turn (h : FB e tt mk w0 w B Bt A m c vs N H0 q gs) {x : Nat} (hk : Keep (fun b => b = x) w w') (hx1 : (Value.slice A m c).ownBlock ≠ some x) (hx2 : x ≠ q) (hx3 : OwnS vs x ∨ w0.heap.size ≤ x)
    (hv : ∀ (j : Nat) (v : Value), vs[j]? = some v → v.ownBlock = some x → w'.ownsRow B e 1 v (N j) (marksV mk j (N j))) : FB e tt mk w0 w' B Bt A m c vs N H0 q gs := by
  refine ⟨hk.own h.tab fun b hb hbx => hx1 (by rw [hb, hbx]), fun j v hj => ?_, hk.blk h.gtab (fun e => hx2 e.symm), h.glen, h.keep.trans hk fun j hj => by rw [hj]; exact hx3, h.h0, Nat.le_trans h.hz hk.size, h.hq, h.low, h.tlow⟩
  by_cases hb : v.ownBlock = some x
  · exact hv j v hj hb
  · exact hk.own (h.own j v hj) fun b hb' hbx => hb (by rw [hb', hbx])
/-- a cell of gs is stored -/
theorem FB.setTab (h : FB e tt mk w0 w B Bt A m c vs N H0 q gs) (hne : e ≠ tt) (k : Nat) (g : Value) : FB e tt mk w0 (w.setCell ⟨q, k, none⟩ g) B Bt A m c vs N H0 q (gs.set k g) := by
  have hk : Keep (fun b => b = q) w (w.setCell ⟨q, k, none⟩ g) := Keep.setCell w ⟨q, k, none⟩ g
  refine ⟨hk.own h.tab fun b hb hbq => by have := h.tlow b hb; have := h.hq; omega, fun j v hj => hk.own (h.own j v hj) fun b hb hbq => hne (own_type_blk (h.own j v hj) (by rw [hb, hbq]) h.gtab), ?_, by rw [List.length_set]; exact h.glen, h.keep.trans hk fun j hj => Or.inr (by rw [hj]; exact Nat.le_trans h.h0 h.hq), h.h0, by rw [size_setCell]; exact h.hz, h.hq, h.low, h.tlow⟩
  have := h.gtab.set k g
  simpa using this
/-- one more stands in gs -/
theorem GP.put (h : GP e mk w B vs gs N H0 k X) (hfb : FB e tt mk w0 w B Bt A m c vs N H0 q gs) (hne : e ≠ tt) (hd : DistV vs) {g : Value} {L : List Value} (hg : w.ownsRow B e 1 g (N k + 64) L) (hL : ∀ q, q < N k + X → L[q]? = some (mk k q)) (hloc : LocV vs gs N H0 k g (N k + 64)) (hk : k < m) :
    GP e mk (w.setCell ⟨q, k, none⟩ g) B vs (gs.set k g) N H0 (k + 1) X := by
  have hkp : Keep (fun b => b = q) w (w.setCell ⟨q, k, none⟩ g) := Keep.setCell w ⟨q, k, none⟩ g
  have hkl : k < gs.length := by rw [hfb.glen]; exact hk
  have get : ∀ (j : Nat) (g' : Value), j < k + 1 → (gs.set k g)[j]? = some g' → (j = k ∧ g' = g) ∨ (j < k ∧ gs[j]? = some g') := fun j g' hj h1 => by
    by_cases hjk : j = k
    · subst hjk
      rw [List.getElem?_set_self hkl] at h1
      cases h1
      exact Or.inl ⟨rfl, rfl⟩
    · rw [List.getElem?_set_ne (by omega)] at h1
      exact Or.inr ⟨by omega, h1⟩
  have far : ∀ (j : Nat) (g' : Value) (b : Nat), j < k → gs[j]? = some g' → g'.ownBlock = some b → g.ownBlock ≠ some b := fun j g' b hj hg' hb hgb => by
    rcases hloc with ⟨b', cap, rfl, hv⟩ | hloc
    · injection hgb with hgb
      have hgb : b' = b := hgb
      subst hgb
      rcases h.home j g' b' hj hg' hb with ⟨v, h1, h2⟩ | h1
      · exact hd j k _ _ b' h1 hv (by omega) h2 rfl
      · have := hfb.low b' ⟨k, _, hv, rfl⟩
        omega
    · exact (hloc b hgb).2 j g' hj hg' hb
  refine ⟨fun j g' hj h1 => ?_, fun j g' b hj h1 hb => ?_, fun i j g1 g2 b hi hj hij h1 h2 hb => ?_⟩
  · rcases get j g' hj h1 with ⟨rfl, rfl⟩ | ⟨hj, h1⟩
    · exact ⟨L, hkp.own hg fun b hb hbq => hne (own_type_blk hg (by rw [hb, hbq]) hfb.gtab), hL⟩
    · obtain ⟨L', h3, h4⟩ := h.own j g' hj h1
      exact ⟨L', hkp.own h3 fun b hb hbq => hne (own_type_blk h3 (by rw [hb, hbq]) hfb.gtab), h4⟩
  · rcases get j g' hj h1 with ⟨rfl, rfl⟩ | ⟨hj, h1⟩
    · rcases hloc with ⟨b', cap, rfl, hv⟩ | hloc
      · exact Or.inl ⟨_, hv, hb⟩
      · exact Or.inr (hloc b hb).1
    · exact h.home j g' b hj h1 hb
  · rcases get i g1 hi h1 with ⟨e1, e2⟩ | ⟨hi', h1'⟩
    · rcases get j g2 hj h2 with ⟨e3, e4⟩ | ⟨hj', h2'⟩
      · omega
      · exact fun h3 => far j g2 b hj' h2' h3 (by rw [← e2]; exact hb)
    · rcases get j g2 hj h2 with ⟨e3, e4⟩ | ⟨hj', h2'⟩
      · rw [e4]
        exact far i g1 b hi' h1' hb
      · exact h.dist i j g1 g2 b hi' hj' hij h1' h2' hb
/-- what grows of row k grows once more -/
theorem step_two (hne : e ≠ tt) (hd : DistV vs) (hfb : FB e tt mk w0 w B Bt A m c vs N H0 q gs) (hgp : GP e mk w B vs gs N H0 k X) {g g' : Value} {n mm : Nat} {L news : List Value} (hg : w.ownsRow B e 1 g n L) (hpre : L.take (N k) = marksV mk k (N k)) (hn : N k ≤ n)
    (hloc : LocV vs gs N H0 k g n) (hown' : w'.ownsRow B e 1 g' (n + mm) (L ++ news)) (htw : TwoWays w g n mm g' w') : FB e tt mk w0 w' B Bt A m c vs N H0 q gs ∧ GP e mk w' B vs gs N H0 k X ∧ LocV vs gs N H0 k g' (n + mm) := by
  have hLl : L.length = n := by have := hg.1; omega
  rcases htw with ⟨b, cap, rfl, rfl, hgr⟩ | ⟨hb, hgr⟩
  · have hk : Keep (fun j => j = b) w w' := (Keep.grown hgr).mono fun j hj => Or.inl (by injection hj with hj; exact hj.symm)
    have hx1 : (Value.slice A m c).ownBlock ≠ some b := fun hA => hne (own_types hg hfb.tab rfl hA)
    have hx2 : b ≠ q := fun hbq => by
      subst hbq
      exact hne (own_type_blk hg rfl hfb.gtab)
    rcases hloc with ⟨b', cap', hgv, hv⟩ | hloc
    · injection hgv with h1 h2 h3
      injection h1 with h1
      injection h1 with h1
      subst h1 h3
      have hx4 : ∀ (j : Nat) (g : Value), j < k → gs[j]? = some g → g.ownBlock ≠ some b := fun j g hj hgj hb => by
        rcases hgp.home j g b hj hgj hb with ⟨v, h4, h5⟩ | h4
        · exact hd j k _ _ b h4 hv (by omega) h5 rfl
        · have := hfb.low b ⟨k, _, hv, rfl⟩
          omega
      refine ⟨hfb.turn hk hx1 hx2 (Or.inl ⟨k, _, hv, rfl⟩) fun j v hj hvb => ?_, hgp.turn hk hx4, Or.inl ⟨b, cap, rfl, hv⟩⟩
      by_cases hjk : j = k
      · subst hjk
        rw [hv] at hj
        cases hj
        have := own_prefix hown' (k := N j) (by omega)
        rw [Nat.mul_one, List.take_append_of_le_length (by omega), hpre] at this
        exact this
      · exact absurd rfl (hd j k _ _ b hj hv hjk hvb)
    · have h1 := hloc b rfl
      refine ⟨hfb.turn hk hx1 hx2 (Or.inr (Nat.le_trans hfb.h0 h1.1)) fun j v hj hvb => ?_, hgp.turn hk h1.2, Or.inr fun b' hb' => hloc b' hb'⟩
      have := hfb.low b ⟨j, v, hj, hvb⟩
      omega
  · refine ⟨hfb.grow hgr, hgp.grow hgr, Or.inr fun b' hb' => ?_⟩
    obtain rfl := hb b' hb'
    refine ⟨hfb.hz, fun j g1 hj hg1 hb1 => ?_⟩
    obtain ⟨L1, h1, _⟩ := hgp.own j g1 hj hg1
    have := (h1.lt _ hb1).2
    omega
theorem LocV.start (hfb : FB e tt mk w0 w B Bt A m c vs N H0 q gs) {v : Value} (hv : vs[k]? = some v) : LocV vs gs N H0 k v (N k) := by
  rcases (hfb.own k v hv).2 with ⟨rfl, _⟩ | ⟨b, cap, cur, rfl, _⟩
  · exact Or.inr fun b h => by cases h
  · exact Or.inl ⟨b, cap, rfl, hv⟩
theorem GP.none : GP e mk w B vs gs N H0 0 X := ⟨fun _ _ h => absurd h (by omega), fun _ _ _ h => absurd h (by omega), fun _ _ _ _ _ h => absurd h (by omega)⟩
theorem Ph1.done (h : Ph1 e tt mk w0 w B Bt A m c vs N m 0) : ∀ (j : Nat) (v : Value), vs[j]? = some v → w.ownsRow B e 1 v (N j) (marksV mk j (N j)) := fun j v hv => by
  obtain ⟨L, h1, h2⟩ := h.own j v hv
  have hjm : j < m := by
    have h3 := (List.getElem?_eq_some_iff.1 hv).1
    have h4 := h.tab.1
    omega
  rw [← marksV_of (by have := h1.1; omega) fun q hq => h2 q hq (Or.inl hjm)]
  exact h1
end
end Go.Proofs.YtbbjeokecgnfpaaGreat
