/-
  append, with what becomes of the old row told: either it grew where it lies, or all old blocks stay. No program is in sight.
  Rows that lie apart. No program is in sight.
  Words for mudlarkkit's flat..: rows that lie apart, each owned, listed in a table; each is marked, grown, marked again. e: the elements' type (of one cell), tt: the rows' type, mk: the mark of a place. No program is in sight.
  Words for mudlarkkit's flat.., for elements of any number of cells and marks that may point to memory: rows that lie apart, each owned, listed in a table; each is marked, grown, marked again. e: the elements' type (of s cells), tt: the rows' type, M: the cells are the mark of a place. No program is in sight.
  What a slot of a frame holds behind some operations of a drawn region, without unfolding the frame. No program is in sight.
  A region that draws its order and whose last operation waits for all others (an assignment): the law of XStages for all but the last, then the last. So a slot may be read early and assigned last. No program is in sight.
  The walk of slices.Grow on no bytes: a row without elements, with room.
  math/bits.ReverseBytes32: the bytes of a number, the other way round.
-/
import Derived.Test.YtamdejidkgnaeaaBaseA
import Derived.Test.YtamdejidkgnaeaaBaseC
import Derived.Deep.MidRow
import Derived.Laws.OwnMore
import Derived.Lib.AppendZerosOnto
import Derived.Test.YtamdejidkgnaeaaProg
import Derived.Outline
import Derived.WalkKit
import Derived.Lib.Hide
import Derived.IntWalk
import Derived.OwnWalk
namespace Go.Proofs.Ytamdejidkgnaeaa
open Go.RowKit

/-- where the new slice lies: behind the old one's row, or in a block of its own -/
def TwoWays (w : World) (v : Value) (n m : Nat) (v' : Value) (w' : World) : Prop :=
  (∃ g cap, v = .slice (some ⟨g, 0, none⟩) n cap ∧ v' = .slice (some ⟨g, 0, none⟩) (n + m) cap ∧ w.grownBy w' (some g)) ∨ ((∀ b, v'.ownBlock = some b → b = w.heap.size) ∧ Grow w w')

section
variable {P : Program} (w : World)
theorem run_append_two {base t ty e size bytes : Nat} {z : Value} (T : AppTy P t e z size bytes) {v : Value} {n : Nat} {xs : List Value} (hown : w.ownsRow base e size v n xs)
    {B : Nat} {A : Option Addr} {m c : Nat} {news : List Value} (hr : ReadsAt w B size A m news) (h1 : ∀ u ∈ news, u.oneCell' = true)
    (h63 : n + m ≤ maxLen) (hbytes : (n + m) * bytes ≤ 140737488355328) (hbase : base ≤ w.heap.size) :
    ∃ v' w', (Builtin.append_ #[t, t] ty #[v, .slice A m c]).run P w = .ok v' w' ∧ w'.ownsRow base e size v' (n + m) (xs ++ news) ∧ TwoWays w v n m v' w' := by
  have nothing : m = 0 → news = [] := fun h0 => List.eq_nil_of_length_eq_zero (by rw [hr.1, h0, Nat.zero_mul])
  have stay : TwoWays w v n 0 v w := by
    rcases hown.2 with ⟨rfl, rfl⟩ | ⟨g, cap, cur, rfl, _⟩
    · exact Or.inr ⟨(fun b h => by cases h), Grow.refl w⟩
    · exact Or.inl ⟨g, cap, rfl, rfl, World.grownBy.refl w _⟩
  rcases A with _ | ad
  · have hm : m = 0 := by
      rcases Nat.eq_zero_or_pos m with h0 | h0
      · exact h0
      · obtain ⟨b, off, h, _⟩ := hr.2 h0
        cases h
    obtain rfl := hm
    rw [nothing rfl]
    exact ⟨v, w, run_append_nothing w T hown c, by simpa using hown, stay⟩
  · have hnews : ∀ j u, news[j]? = some u → w.cell? (ad.add j) = some u := by
      intro j u hu
      rcases Nat.eq_zero_or_pos m with h0 | h0
      · rw [nothing h0] at hu
        simp at hu
      · obtain ⟨b, off, h, _, hc⟩ := hr.2 h0
        injection h with h
        subst h
        have : (⟨b, off, none⟩ : Addr).add j = ⟨b, off + j, none⟩ := by unfold Addr.add; split <;> simp_all
        rw [this]
        exact hc j u hu
    obtain ⟨i, hi, hz, hsize, hby⟩ := T.info
    have ht := T.ht
    have hzs := T.hz
    have hsz := T.pos
    have hl := hr.1
    subst hsize
    subst hby
    have hsmall : n + m ≤ 9223372036854775807 := by simp only [maxLen] at h63; omega
    have hlen : (xs ++ news).length = (n + m) * i.size := by rw [List.length_append, hown.1, hl, Nat.add_mul]
    have grown : ∀ (old : Nat), old < n + m →
        (w.drew.alloc (.cells (xs.toArray ++ news.toArray ++ Builtin.zeroCells z.cells (grownCap w (n + m) old e - (n + m))) e)).ownsRow base e i.size
          (.slice (some ⟨w.heap.size, 0, none⟩) (n + m) (grownCap w (n + m) old e)) (n + m) (xs ++ news) := by
      intro old ho
      have hge := grownCap_ge w (n + m) old e
      have hcm : grownCap w (n + m) old e ≤ maxLen := grownCap_le_maxLen w (n + m) old e h63
      refine ⟨hlen, .inr ⟨w.heap.size, _, _, rfl, hbase, heap_alloc_new w.drew _, hge, hcm, ?_, ?_⟩⟩
      · simp only [Array.size_append, List.size_toArray, size_zeroCells, hzs, hown.1, hl, ← Nat.add_mul]
        congr 1
        omega
      · simp only [Array.toList_append, List.append_assoc]
        rw [← List.append_assoc, ← hlen]
        exact List.take_left
    have far : ∀ (old : Nat), TwoWays w v n m (.slice (some ⟨w.heap.size, 0, none⟩) (n + m) (grownCap w (n + m) old e)) (w.drew.alloc (.cells (xs.toArray ++ news.toArray ++ Builtin.zeroCells z.cells (grownCap w (n + m) old e - (n + m))) e)) := fun old =>
      Or.inr ⟨fun b h => by injection h with h; exact h.symm, (Grow.drew w).trans (Grow.alloc _ _)⟩
    rcases hown.2 with ⟨rfl, rfl⟩ | ⟨g, cap, cur, rfl, hbg, hg, hnc, hcm, hcs, htake⟩
    · have hx : xs = [] := List.eq_nil_of_length_eq_zero (by simpa using hown.1)
      subst hx
      by_cases hm : m = 0
      · subst hm
        have hn : news = [] := nothing rfl
        subst hn
        refine ⟨.slice none 0 0, w, ?_, World.ownsRow_nil w base e i.size, stay⟩
        simp [Builtin.append_, run_underlying ht, sizeOf, typeInfo, hi, Builtin.lenOf, Builtin.firstCells, loadCells, loadCellsFrom]
      · have hr := run_append_nil (P := P) w t ty e i z ht hi hz ad m c news hl hnews (by omega) (by omega) (by have hb := hbytes; simp only [Nat.zero_add] at hb; omega)
        have hgr := grown 0 (by omega)
        have hf := far 0
        simp only [Nat.zero_add, List.nil_append, Array.empty_append] at hgr hf ⊢
        exact ⟨_, _, hr, hgr, hf⟩
    · by_cases hroom : n + m ≤ cap
      · have hfit : n * i.size + news.length ≤ cur.size := by rw [hl, hcs, ← Nat.add_mul]; exact Nat.mul_le_mul_right _ hroom
        have hr := run_append_room (P := P) w t ty e i ht hi g n cap cur hg ad m c news hl hnews h1 hroom hfit
        refine ⟨_, _, hr, ⟨hlen, .inr ⟨g, cap, _, rfl, hbg, setRow_heap w g cur _ e _ hg, hroom, hcm, ?_, ?_⟩⟩, Or.inl ⟨g, cap, rfl, rfl, ⟨rfl, rfl, rfl, by simp, fun k _ hk => setRow_other w g k _ (fun e => hk (by simp [e]))⟩⟩⟩
        · simp only [List.size_toArray, List.length_append, List.length_take, List.length_drop, Array.length_toList]
          omega
        · rw [htake, ← hlen]
          exact List.take_left
      · have holds : ∀ j u, xs[j]? = some u → w.cell? ((⟨g, 0, none⟩ : Addr).add j) = some u := hown.cells (g := g) rfl
        have hr := run_append_grow (P := P) w t ty e i z ht hi hz ⟨g, 0, none⟩ n cap xs hown.1 holds ad m c news hl hnews (by omega) (by omega) (growslice_fits (by omega) hbytes)
        exact ⟨_, _, hr, grown cap (by omega), far cap⟩

theorem wpList_append_two {ops : Array Oper} {rest : List Oper} {o : Oper} {a : Act} {Q : Exit → Act → World → Prop} (hgd : o.guard = none) (s x : Operand) {t : TypeId}
    (ho : o.op = .call { callee := .builtin .append, args := #[s, x], argTypes := #[t, t] })
    {base e size bytes : Nat} {z : Value} (T : AppTy P t e z size bytes) {v : Value} {n : Nat} {xs : List Value} (hs : a.eval s = v) (hown : w.ownsRow base e size v n xs)
    {B : Nat} {A : Option Addr} {m c : Nat} {news : List Value} (hx : a.eval x = .slice A m c) (hr : ReadsAt w B size A m news) (h1 : ∀ u ∈ news, u.oneCell' = true)
    (h63 : n + m ≤ maxLen) (hbytes : (n + m) * bytes ≤ 140737488355328) (hbase : base ≤ w.heap.size)
    (h : ∀ v' w', w'.ownsRow base e size v' (n + m) (xs ++ news) → TwoWays w v n m v' w' → wpList P ops Q rest (a.put o.dst v') w') : wpList P ops Q (o :: rest) a w := by
  refine wpList_plain hgd fun _ hK => ?_
  obtain ⟨v', w', hrun, h2, h3⟩ := run_append_two (P := P) w (ty := o.type) T hown (c := c) hr h1 h63 hbytes hbase
  unfold Oper.wp execOp
  simp only [ho, resolve, invoke, builtin, Sem.run_bind, Sem.run_pure, Result.andThen_ok, List.map_toArray, List.map_cons, List.map_nil, hs, hx, hrun]
  exact hK _ _ (h v' w' h2 h3)
end

section
variable {w w' : World} {base e size : Nat}
theorem TwoWays.keep {v v' : Value} {n m : Nat} (h : TwoWays w v n m v' w') : Keep (fun k => v.ownBlock = some k) w w' := by
  rcases h with ⟨g, cap, rfl, -, hg⟩ | ⟨-, hg⟩
  · exact (Keep.grown hg).mono fun j hj => Or.inl (by injection hj with hj; subst hj; rfl)
  · exact Keep.grow hg
/-- a part of a row that is owned, from its head on -/
theorem own_prefix {g n cap k : Nat} {xs : List Value} (h : w.ownsRow base e size (.slice (some ⟨g, 0, none⟩) n cap) n xs) (hk : k ≤ n) : w.ownsRow base e size (.slice (some ⟨g, 0, none⟩) k cap) k (xs.take (k * size)) := by
  have hle : k * size ≤ n * size := Nat.mul_le_mul_right _ hk
  refine ⟨by rw [List.length_take, h.1]; omega, ?_⟩
  rcases h.2 with ⟨h2, _⟩ | ⟨g', cap', cur, h2, h3, h4, h5, h6, h7, h8⟩
  · cases h2
  · injection h2 with h2 _ h9
    injection h2 with h2
    injection h2 with h2
    subst h2 h9
    exact Or.inr ⟨_, _, cur, rfl, h3, h4, by omega, h6, h7, by rw [← h8, List.take_take, Nat.min_eq_left hle]⟩
end
end Go.Proofs.Ytamdejidkgnaeaa

namespace Go.Proofs.Ytamdejidkgnaeaa
open Go.RowKit

/-- the rows' blocks -/
def OwnS (vs : List Value) (b : Nat) : Prop := ∃ (j : Nat) (v : Value), vs[j]? = some v ∧ v.ownBlock = some b
/-- the rows lie apart -/
def DistV (vs : List Value) : Prop := ∀ (i j : Nat) (v v' : Value) (b : Nat), vs[i]? = some v → vs[j]? = some v' → i ≠ j → v.ownBlock = some b → v'.ownBlock ≠ some b
end Go.Proofs.Ytamdejidkgnaeaa

namespace Go.Proofs.Ytamdejidkgnaeaa
open Go.RowKit

/-- the marks of row k -/
def marksV (mk : Nat → Nat → Value) (k n : Nat) : List Value := (List.range n).map (mk k)
theorem marksV_length (mk : Nat → Nat → Value) (k n : Nat) : (marksV mk k n).length = n := by simp [marksV]
theorem marksV_get (mk : Nat → Nat → Value) {k n j : Nat} (h : j < n) : (marksV mk k n)[j]? = some (mk k j) := by simp [marksV, h]
theorem marksV_succ (mk : Nat → Nat → Value) (k n : Nat) : marksV mk k (n + 1) = marksV mk k n ++ [mk k n] := by simp [marksV, List.range_succ]
theorem marksV_take (mk : Nat → Nat → Value) (k : Nat) {n m : Nat} (h : n ≤ m) : (marksV mk k m).take n = marksV mk k n := by
  simp [marksV, ← List.map_take, List.take_range, Nat.min_eq_left h]
theorem marksV_of {mk : Nat → Nat → Value} {k n : Nat} {L : List Value} (hl : L.length = n) (h : ∀ q, q < n → L[q]? = some (mk k q)) : L = marksV mk k n := by
  refine List.ext_getElem? fun q => ?_
  rcases Nat.lt_or_ge q n with h1 | h1
  · rw [h q h1, marksV_get mk h1]
  · rw [List.getElem?_eq_none (by omega), List.getElem?_eq_none (by rw [marksV_length]; exact h1)]

theorem own_cell {w : World} {base e g n cap : Nat} {xs : List Value} (h : w.ownsRow base e 1 (.slice (some ⟨g, 0, none⟩) n cap) n xs) {j : Nat} {u : Value} (hj : xs[j]? = some u) : w.cell? ⟨g, j, none⟩ = some u := by
  have := h.cells (g := g) rfl j u hj
  have e : (⟨g, 0, none⟩ : Addr).add j = ⟨g, j, none⟩ := by unfold Addr.add; split <;> simp_all
  rw [e] at this
  exact this
theorem own_free {w : World} {base e size g n cap : Nat} {xs : List Value} (h : w.ownsRow base e size (.slice (some ⟨g, 0, none⟩) n cap) n xs) (j : Nat) : w.frozen? ⟨g, j, none⟩ = false := by
  obtain ⟨cur, hc⟩ := own_obj h rfl
  simp [World.frozen?, hc]
theorem own_types {w : World} {base base' e e' size size' n n' b : Nat} {v v' : Value} {xs xs' : List Value} (h : w.ownsRow base e size v n xs) (h' : w.ownsRow base' e' size' v' n' xs') (hb : v.ownBlock = some b) (hb' : v'.ownBlock = some b) : e = e' := by
  obtain ⟨cur, hc⟩ := own_obj h hb
  obtain ⟨cur', hc'⟩ := own_obj h' hb'
  rw [hc] at hc'
  injection hc' with hc'
  injection hc' with _ hc'
theorem own_type_blk {w : World} {base e size n b t : Nat} {v : Value} {xs : List Value} {cs : Array Value} (h : w.ownsRow base e size v n xs) (hb : v.ownBlock = some b) (hk : Blk w b t cs) : e = t := by
  obtain ⟨cur, hc⟩ := own_obj h hb
  unfold Blk at hk
  rw [hc] at hk
  injection hk with hk
  injection hk with _ hk

section
variable {e tt : TypeId} {mk : Nat → Nat → Value}

/-- while the rows are marked: rows ahead of k are, row k is up to i -/
structure Ph1 (e tt : TypeId) (mk : Nat → Nat → Value) (w0 w : World) (B Bt : Nat) (A : Option Addr) (m c : Nat) (vs : List Value) (N : Nat → Nat) (k i : Nat) : Prop where
  tab : w.ownsRow Bt tt 1 (.slice A m c) m vs
  own : ∀ (j : Nat) (v : Value), vs[j]? = some v → ∃ L, w.ownsRow B e 1 v (N j) L ∧ ∀ q, q < N j → (j < k ∨ (j = k ∧ q < i)) → L[q]? = some (mk j q)
  keep : Keep (OwnS vs) w0 w

variable {w0 w w' : World} {B Bt : Nat} {A : Option Addr} {m c : Nat} {vs : List Value} {N : Nat → Nat} {k i : Nat}
theorem Ph1.tab_ne (h : Ph1 e tt mk w0 w B Bt A m c vs N k i) (hne : e ≠ tt) {b : Nat} (hb : OwnS vs b) : (Value.slice A m c).ownBlock ≠ some b := fun hA => by
  obtain ⟨j, v, hv, hvb⟩ := hb
  obtain ⟨L, hL, _⟩ := h.own j v hv
  exact hne (own_types hL h.tab hvb hA)
theorem Ph1.grow (h : Ph1 e tt mk w0 w B Bt A m c vs N k i) (hg : Grow w w') : Ph1 e tt mk w0 w' B Bt A m c vs N k i :=
  ⟨own_below h.tab hg, fun j v hv => by
    obtain ⟨L, h1, h2⟩ := h.own j v hv
    exact ⟨L, own_below h1 hg, h2⟩, h.keep.trans' (Keep.grow hg)⟩
theorem Ph1.row (h : Ph1 e tt mk w0 w B Bt A m c vs N k (N k)) : Ph1 e tt mk w0 w B Bt A m c vs N (k + 1) 0 :=
  ⟨h.tab, fun j v hv => by
    obtain ⟨L, h1, h2⟩ := h.own j v hv
    exact ⟨L, h1, fun q hq hj => h2 q hq (by rcases hj with hj | ⟨_, hj⟩
                                             · rcases Nat.lt_or_ge j k with h3 | h3
                                               · exact Or.inl h3
                                               · obtain rfl : j = k := by omega
                                                 exact Or.inr ⟨rfl, hq⟩
                                             · omega)⟩, h.keep⟩
theorem Ph1.store (h : Ph1 e tt mk w0 w B Bt A m c vs N k i) (hne : e ≠ tt) (hd : DistV vs) {b cap : Nat} (hv : vs[k]? = some (.slice (some ⟨b, 0, none⟩) (N k) cap)) (hi : i < N k) :
    Ph1 e tt mk w0 (w.setCell ⟨b, i, none⟩ (mk k i)) B Bt A m c vs N k (i + 1) := by
  have hk : Keep (fun j => j = b) w (w.setCell ⟨b, i, none⟩ (mk k i)) := Keep.setCell w ⟨b, i, none⟩ _
  have hS : OwnS vs b := ⟨k, _, hv, rfl⟩
  refine ⟨hk.own h.tab fun j hj hjb => h.tab_ne hne hS (by rw [hj, hjb]), fun j v hj => ?_, h.keep.trans' (hk.mono fun j hj => Or.inl (by rw [hj]; exact hS))⟩
  obtain ⟨L, h1, h2⟩ := h.own j v hj
  by_cases hjk : j = k
  · subst hjk
    rw [hv] at hj
    cases hj
    refine ⟨L.set i (mk j i), (h1.stored i (mk j i)).1, fun q hq hj => ?_⟩
    have hl : L.length = N j := by have := h1.1; omega
    by_cases hqi : q = i
    · subst hqi
      rw [List.getElem?_set_self (by omega)]
    · rw [List.getElem?_set_ne (by omega)]
      exact h2 q hq (by omega)
  · refine ⟨L, hk.own h1 fun b' hb' hbb => hd j k _ _ b hj hv hjk (by rw [hb', hbb]) rfl, fun q hq hj' => h2 q hq (by omega)⟩

/-- behind the marking: the rows are marked, gs is the table of what has grown of them -/
structure FB (e tt : TypeId) (mk : Nat → Nat → Value) (w0 w : World) (B Bt : Nat) (A : Option Addr) (m c : Nat) (vs : List Value) (N : Nat → Nat) (H0 q : Nat) (gs : List Value) : Prop where
  tab : w.ownsRow Bt tt 1 (.slice A m c) m vs
  own : ∀ (j : Nat) (v : Value), vs[j]? = some v → w.ownsRow B e 1 v (N j) (marksV mk j (N j))
  gtab : Blk w q tt gs.toArray
  glen : gs.length = m
  keep : Keep (OwnS vs) w0 w
  h0 : w0.heap.size ≤ H0
  hz : H0 ≤ w.heap.size
  hq : H0 ≤ q
  low : ∀ b, OwnS vs b → b < H0
  tlow : ∀ b, (Value.slice A m c).ownBlock = some b → b < H0
/-- the first k of gs: each has its row's marks, and X more; where they lie -/
structure GP (e : TypeId) (mk : Nat → Nat → Value) (w : World) (B : Nat) (vs gs : List Value) (N : Nat → Nat) (H0 k X : Nat) : Prop where
  own : ∀ (j : Nat) (g : Value), j < k → gs[j]? = some g → ∃ L, w.ownsRow B e 1 g (N j + 64) L ∧ ∀ q, q < N j + X → L[q]? = some (mk j q)
  home : ∀ (j : Nat) (g : Value) (b : Nat), j < k → gs[j]? = some g → g.ownBlock = some b → (∃ v, vs[j]? = some v ∧ v.ownBlock = some b) ∨ H0 ≤ b
  dist : ∀ (i j : Nat) (g g' : Value) (b : Nat), i < k → j < k → i ≠ j → gs[i]? = some g → gs[j]? = some g' → g.ownBlock = some b → g'.ownBlock ≠ some b
/-- where a value that grows of row k lies -/
def LocV (vs gs : List Value) (N : Nat → Nat) (H0 k : Nat) (g : Value) (n : Nat) : Prop :=
  (∃ b cap, g = .slice (some ⟨b, 0, none⟩) n cap ∧ vs[k]? = some (.slice (some ⟨b, 0, none⟩) (N k) cap)) ∨ (∀ b, g.ownBlock = some b → H0 ≤ b ∧ ∀ (j : Nat) (g' : Value), j < k → gs[j]? = some g' → g'.ownBlock ≠ some b)

variable {H0 q : Nat} {gs : List Value} {X : Nat}
theorem FB.grow (h : FB e tt mk w0 w B Bt A m c vs N H0 q gs) (hg : Grow w w') : FB e tt mk w0 w' B Bt A m c vs N H0 q gs :=
  ⟨own_below h.tab hg, fun j v hv => own_below (h.own j v hv) hg, h.gtab.below hg h.gtab.lt, h.glen, h.keep.trans' (Keep.grow hg), h.h0, Nat.le_trans h.hz hg.size, h.hq, h.low, h.tlow⟩
theorem GP.grow (h : GP e mk w B vs gs N H0 k X) (hg : Grow w w') : GP e mk w' B vs gs N H0 k X :=
  ⟨fun j g hj hgj => by
    obtain ⟨L, h1, h2⟩ := h.own j g hj hgj
    exact ⟨L, own_below h1 hg, h2⟩, h.home, h.dist⟩
theorem GP.turn (h : GP e mk w B vs gs N H0 k X) {x : Nat} (hk : Keep (fun b => b = x) w w') (hx : ∀ (j : Nat) (g : Value), j < k → gs[j]? = some g → g.ownBlock ≠ some x) : GP e mk w' B vs gs N H0 k X :=
  ⟨fun j g hj hgj => by
    obtain ⟨L, h1, h2⟩ := h.own j g hj hgj
    exact ⟨L, hk.own h1 fun b hb hbx => hx j g hj hgj (by rw [hb, hbx]), h2⟩, h.home, h.dist⟩
/-- a block of elements turns -/
theorem FB.turn (h : FB e tt mk w0 w B Bt A m c vs N H0 q gs) {x : Nat} (hk : Keep (fun b => b = x) w w') (hx1 : (Value.slice A m c).ownBlock ≠ some x) (hx2 : x ≠ q) (hx3 : OwnS vs x ∨ w0.heap.size ≤ x)
    (hv : ∀ (j : Nat) (v : Value), vs[j]? = some v → v.ownBlock = some x → w'.ownsRow B e 1 v (N j) (marksV mk j (N j))) : FB e tt mk w0 w' B Bt A m c vs N H0 q gs := by
  refine ⟨hk.own h.tab fun b hb hbx => hx1 (by rw [hb, hbx]), fun j v hj => ?_, hk.blk h.gtab (fun e => hx2 e.symm), h.glen, h.keep.trans hk fun j hj => by rw [hj]; exact hx3, h.h0, Nat.le_trans h.hz hk.size, h.hq, h.low, h.tlow⟩
  by_cases hb : v.ownBlock = some x
  · exact hv j v hj hb
  · exact hk.own (h.own j v hj) fun b hb' hbx => hb (by rw [hb', hbx])
/-- a cell of gs is stored -/
theorem FB.setTab (h : FB e tt mk w0 w B Bt A m c vs N H0 q gs) (hne : e ≠ tt) (k : Nat) (g : Value) : FB e tt mk w0 (w.setCell ⟨q, k, none⟩ g) B Bt A m c vs N H0 q (gs.set k g) := by
  have hk : Keep (fun b => b = q) w (w.setCell ⟨q, k, none⟩ g) := Keep.setCell w ⟨q, k, none⟩ g
  refine ⟨hk.own h.tab fun b hb hbq => by have := h.tlow b hb; have := h.hq; omega, fun j v hj => hk.own (h.own j v hj) fun b hb hbq => hne (own_type_blk (h.own j v hj) (by rw [hb, hbq]) h.gtab), ?_, by rw [List.length_set]; exact h.glen, h.keep.trans hk fun j hj => Or.inr (by rw [hj]; exact Nat.le_trans h.h0 h.hq), h.h0, by rw [size_setCell]; exact h.hz, h.hq, h.low, h.tlow⟩
  have := h.gtab.set k g
  simpa using this
/-- one more stands in gs -/
theorem GP.put (h : GP e mk w B vs gs N H0 k X) (hfb : FB e tt mk w0 w B Bt A m c vs N H0 q gs) (hne : e ≠ tt) (hd : DistV vs) {g : Value} {L : List Value} (hg : w.ownsRow B e 1 g (N k + 64) L) (hL : ∀ q, q < N k + X → L[q]? = some (mk k q)) (hloc : LocV vs gs N H0 k g (N k + 64)) (hk : k < m) :
    GP e mk (w.setCell ⟨q, k, none⟩ g) B vs (gs.set k g) N H0 (k + 1) X := by
  have hkp : Keep (fun b => b = q) w (w.setCell ⟨q, k, none⟩ g) := Keep.setCell w ⟨q, k, none⟩ g
  have hkl : k < gs.length := by rw [hfb.glen]; exact hk
  have get : ∀ (j : Nat) (g' : Value), j < k + 1 → (gs.set k g)[j]? = some g' → (j = k ∧ g' = g) ∨ (j < k ∧ gs[j]? = some g') := fun j g' hj h1 => by
    by_cases hjk : j = k
    · subst hjk
      rw [List.getElem?_set_self hkl] at h1
      cases h1
      exact Or.inl ⟨rfl, rfl⟩
    · rw [List.getElem?_set_ne (by omega)] at h1
      exact Or.inr ⟨by omega, h1⟩
  have far : ∀ (j : Nat) (g' : Value) (b : Nat), j < k → gs[j]? = some g' → g'.ownBlock = some b → g.ownBlock ≠ some b := fun j g' b hj hg' hb hgb => by
    rcases hloc with ⟨b', cap, rfl, hv⟩ | hloc
    · injection hgb with hgb
      have hgb : b' = b := hgb
      subst hgb
      rcases h.home j g' b' hj hg' hb with ⟨v, h1, h2⟩ | h1
      · exact hd j k _ _ b' h1 hv (by omega) h2 rfl
      · have := hfb.low b' ⟨k, _, hv, rfl⟩
        omega
    · exact (hloc b hgb).2 j g' hj hg' hb
  refine ⟨fun j g' hj h1 => ?_, fun j g' b hj h1 hb => ?_, fun i j g1 g2 b hi hj hij h1 h2 hb => ?_⟩
  · rcases get j g' hj h1 with ⟨rfl, rfl⟩ | ⟨hj, h1⟩
    · exact ⟨L, hkp.own hg fun b hb hbq => hne (own_type_blk hg (by rw [hb, hbq]) hfb.gtab), hL⟩
    · obtain ⟨L', h3, h4⟩ := h.own j g' hj h1
      exact ⟨L', hkp.own h3 fun b hb hbq => hne (own_type_blk h3 (by rw [hb, hbq]) hfb.gtab), h4⟩
  · rcases get j g' hj h1 with ⟨rfl, rfl⟩ | ⟨hj, h1⟩
    · rcases hloc with ⟨b', cap, rfl, hv⟩ | hloc
      · exact Or.inl ⟨_, hv, hb⟩
      · exact Or.inr (hloc b hb).1
    · exact h.home j g' b hj h1 hb
  · rcases get i g1 hi h1 with ⟨e1, e2⟩ | ⟨hi', h1'⟩
    · rcases get j g2 hj h2 with ⟨e3, e4⟩ | ⟨hj', h2'⟩
      · omega
      · exact fun h3 => far j g2 b hj' h2' h3 (by rw [← e2]; exact hb)
    · rcases get j g2 hj h2 with ⟨e3, e4⟩ | ⟨hj', h2'⟩
      · rw [e4]
        exact far i g1 b hi' h1' hb
      · exact h.dist i j g1 g2 b hi' hj' hij h1' h2' hb
/-- what grows of row k grows once more -/
theorem step_two (hne : e ≠ tt) (hd : DistV vs) (hfb : FB e tt mk w0 w B Bt A m c vs N H0 q gs) (hgp : GP e mk w B vs gs N H0 k X) {g g' : Value} {n mm : Nat} {L news : List Value} (hg : w.ownsRow B e 1 g n L) (hpre : L.take (N k) = marksV mk k (N k)) (hn : N k ≤ n)
    (hloc : LocV vs gs N H0 k g n) (hown' : w'.ownsRow B e 1 g' (n + mm) (L ++ news)) (htw : TwoWays w g n mm g' w') : FB e tt mk w0 w' B Bt A m c vs N H0 q gs ∧ GP e mk w' B vs gs N H0 k X ∧ LocV vs gs N H0 k g' (n + mm) := by
  have hLl : L.length = n := by have := hg.1; omega
  rcases htw with ⟨b, cap, rfl, rfl, hgr⟩ | ⟨hb, hgr⟩
  · have hk : Keep (fun j => j = b) w w' := (Keep.grown hgr).mono fun j hj => Or.inl (by injection hj with hj; exact hj.symm)
    have hx1 : (Value.slice A m c).ownBlock ≠ some b := fun hA => hne (own_types hg hfb.tab rfl hA)
    have hx2 : b ≠ q := fun hbq => by
      subst hbq
      exact hne (own_type_blk hg rfl hfb.gtab)
    rcases hloc with ⟨b', cap', hgv, hv⟩ | hloc
    · injection hgv with h1 h2 h3
      injection h1 with h1
      injection h1 with h1
      subst h1 h3
      have hx4 : ∀ (j : Nat) (g : Value), j < k → gs[j]? = some g → g.ownBlock ≠ some b := fun j g hj hgj hb => by
        rcases hgp.home j g b hj hgj hb with ⟨v, h4, h5⟩ | h4
        · exact hd j k _ _ b h4 hv (by omega) h5 rfl
        · have := hfb.low b ⟨k, _, hv, rfl⟩
          omega
      refine ⟨hfb.turn hk hx1 hx2 (Or.inl ⟨k, _, hv, rfl⟩) fun j v hj hvb => ?_, hgp.turn hk hx4, Or.inl ⟨b, cap, rfl, hv⟩⟩
      by_cases hjk : j = k
      · subst hjk
        rw [hv] at hj
        cases hj
        have := own_prefix hown' (k := N j) (by omega)
        rw [Nat.mul_one, List.take_append_of_le_length (by omega), hpre] at this
        exact this
      · exact absurd rfl (hd j k _ _ b hj hv hjk hvb)
    · have h1 := hloc b rfl
      refine ⟨hfb.turn hk hx1 hx2 (Or.inr (Nat.le_trans hfb.h0 h1.1)) fun j v hj hvb => ?_, hgp.turn hk h1.2, Or.inr fun b' hb' => hloc b' hb'⟩
      have := hfb.low b ⟨j, v, hj, hvb⟩
      omega
  · refine ⟨hfb.grow hgr, hgp.grow hgr, Or.inr fun b' hb' => ?_⟩
    obtain rfl := hb b' hb'
    refine ⟨hfb.hz, fun j g1 hj hg1 hb1 => ?_⟩
    obtain ⟨L1, h1, _⟩ := hgp.own j g1 hj hg1
    have := (h1.lt _ hb1).2
    omega
theorem LocV.start (hfb : FB e tt mk w0 w B Bt A m c vs N H0 q gs) {v : Value} (hv : vs[k]? = some v) : LocV vs gs N H0 k v (N k) := by
  rcases (hfb.own k v hv).2 with ⟨rfl, _⟩ | ⟨b, cap, cur, rfl, _⟩
  · exact Or.inr fun b h => by cases h
  · exact Or.inl ⟨b, cap, rfl, hv⟩
theorem GP.none : GP e mk w B vs gs N H0 0 X := ⟨fun _ _ h => absurd h (by omega), fun _ _ _ h => absurd h (by omega), fun _ _ _ _ _ h => absurd h (by omega)⟩
theorem Ph1.done (h : Ph1 e tt mk w0 w B Bt A m c vs N m 0) : ∀ (j : Nat) (v : Value), vs[j]? = some v → w.ownsRow B e 1 v (N j) (marksV mk j (N j)) := fun j v hv => by
  obtain ⟨L, h1, h2⟩ := h.own j v hv
  have hjm : j < m := by
    have h3 := (List.getElem?_eq_some_iff.1 hv).1
    have h4 := h.tab.1
    omega
  rw [← marksV_of (by have := h1.1; omega) fun q hq => h2 q hq (Or.inl hjm)]
  exact h1
end
end Go.Proofs.Ytamdejidkgnaeaa

namespace Go.Proofs.Ytamdejidkgnaeaa
open Go.RowKit

/-- element q of a row of elements of s cells -/
def seg (s q : Nat) (L : List Value) : List Value := (L.drop (q * s)).take s
section
variable {s q : Nat} {L X : List Value}
theorem seg_get (r : Nat) : (seg s q L)[r]? = if r < s then L[q * s + r]? else none := by
  rw [seg, List.getElem?_take]
  split
  · rw [List.getElem?_drop]
  · rfl
theorem seg_app (h : (q + 1) * s ≤ L.length) : seg s q (L ++ X) = seg s q L := by
  rw [Nat.add_mul, Nat.one_mul] at h
  refine List.ext_getElem? fun r => ?_
  rw [seg_get, seg_get]
  split
  · rw [List.getElem?_append_left (by omega)]
  · rfl
theorem seg_new (h : L.length = q * s) (hX : X.length = s) : seg s q (L ++ X) = X := by
  refine List.ext_getElem? fun r => ?_
  rw [seg_get]
  split
  · rw [List.getElem?_append_right (by omega)]
    congr 1
    omega
  · rw [List.getElem?_eq_none (by omega)]
theorem seg_take {n : Nat} (h : (q + 1) * s ≤ n) : seg s q (L.take n) = seg s q L := by
  rw [Nat.add_mul, Nat.one_mul] at h
  refine List.ext_getElem? fun r => ?_
  rw [seg_get, seg_get]
  split
  · rw [List.getElem?_take, if_pos (by omega)]
  · rfl
end
/-- cells are set from a place on -/
def setRow (L : List Value) (i : Nat) : List Value → List Value
  | [] => L
  | c :: r => setRow (L.set i c) (i + 1) r
theorem setRow_len : ∀ (cs : List Value) (L : List Value) (i : Nat), (setRow L i cs).length = L.length
  | [], _, _ => rfl
  | _ :: r, L, i => by rw [setRow, setRow_len r, List.length_set]
theorem setRow_get : ∀ (cs : List Value) (L : List Value) (i j : Nat), i + cs.length ≤ L.length → (setRow L i cs)[j]? = if i ≤ j ∧ j < i + cs.length then cs[j - i]? else L[j]?
  | [], _, i, j, _ => by
    rw [setRow, if_neg]
    rw [List.length_nil]
    omega
  | c :: r, L, i, j, h => by
    rw [List.length_cons] at h
    rw [setRow, setRow_get r _ (i + 1) j (by rw [List.length_set]; omega)]
    by_cases h1 : i + 1 ≤ j ∧ j < i + 1 + r.length
    · rw [if_pos h1, if_pos (by rw [List.length_cons]; omega), show j - i = (j - (i + 1)) + 1 by omega, List.getElem?_cons_succ]
    · rw [if_neg h1]
      by_cases h2 : j = i
      · subst h2
        rw [if_pos (by rw [List.length_cons]; omega), List.getElem?_set_self (by omega), Nat.sub_self]
        rfl
      · rw [if_neg (by rw [List.length_cons]; omega), List.getElem?_set_ne (by omega)]
theorem seg_setRow {s i : Nat} {L cs : List Value} (hc : cs.length = s) (h : (i + 1) * s ≤ L.length) : seg s i (setRow L (i * s) cs) = cs := by
  rw [Nat.add_mul, Nat.one_mul] at h
  refine List.ext_getElem? fun r => ?_
  rw [seg_get]
  split
  · rw [setRow_get _ _ _ _ (by omega), if_pos (by omega), Nat.add_sub_cancel_left]
  · rw [List.getElem?_eq_none (by omega)]
theorem seg_setRow_ne {s i q : Nat} {L cs : List Value} (hc : cs.length = s) (h : (i + 1) * s ≤ L.length) (hq : q ≠ i) : seg s q (setRow L (i * s) cs) = seg s q L := by
  rw [Nat.add_mul, Nat.one_mul] at h
  refine List.ext_getElem? fun r => ?_
  rw [seg_get, seg_get]
  split
  · rename_i hr
    rw [setRow_get _ _ _ _ (by omega), if_neg]
    intro ⟨h1, h2⟩
    rcases Nat.lt_or_ge q i with h3 | h3
    · have := Nat.mul_le_mul_right s (show q + 1 ≤ i from h3)
      rw [Nat.add_mul, Nat.one_mul] at this
      omega
    · have := Nat.mul_le_mul_right s (show i + 1 ≤ q by omega)
      rw [Nat.add_mul, Nat.one_mul] at this
      omega
  · rfl
theorem setCells_keep (b : Nat) : ∀ (cs : List Value) (w : World) (i : Nat), Keep (fun j => j = b) w (w.setCells b i cs)
  | [], w, _ => Keep.refl _ w
  | c :: r, w, i => Keep.trans' (Keep.setCell w ⟨b, i, none⟩ c) (setCells_keep b r _ (i + 1))
theorem setCells_own {base e s n b cap : Nat} : ∀ (cs : List Value) {w : World} {L : List Value} (_ : w.ownsRow base e s (.slice (some ⟨b, 0, none⟩) n cap) n L) (i : Nat), (w.setCells b i cs).ownsRow base e s (.slice (some ⟨b, 0, none⟩) n cap) n (setRow L i cs)
  | [], _, _, h, _ => h
  | c :: r, _, _, h, i => setCells_own r (h.stored i c).1 (i + 1)
theorem setCells_blk {b t : Nat} : ∀ (cs : List Value) {w : World} {L : List Value} (_ : Blk w b t L.toArray) (i : Nat), Blk (w.setCells b i cs) b t (setRow L i cs).toArray
  | [], _, _, h, _ => h
  | c :: r, _, L, h, i => setCells_blk r (by have := h.set i c; simpa using this) (i + 1)
theorem setRow_one : ∀ (cs : List Value) (L : List Value) (i : Nat), (∀ u ∈ cs, u.oneCell' = true) → (∀ u ∈ L, u.oneCell' = true) → ∀ u ∈ setRow L i cs, u.oneCell' = true
  | [], _, _, _, h => h
  | c :: r, L, i, hc, h => setRow_one r _ (i + 1) (fun u hu => hc u (by simp [hu])) fun u hu => by
    rcases List.mem_or_eq_of_mem_set hu with h1 | rfl
    · exact h u h1
    · exact hc _ (by simp)
/-- 'make([]T, n)' -/
theorem run_make_S {P : Program} {t e : TypeId} {z : Value} {s bytes : Nat} (T : AppTy P t e z s bytes) (kl kc : IntKind) (n : Nat) (hb : bytes * n ≤ 281474976710656) (h63 : n ≤ 9223372036854775807) (w : World) :
    (Instr.makeSlice t (.int kl (n : Int)) (.int kc (n : Int))).run P w = .ok (.slice (some ⟨w.heap.size, 0, none⟩) n n) (w.alloc (.cells (madeCells z.cells (n * s)) e)) := by
  obtain ⟨i, hi, hz, hs, hby⟩ := T.info
  have hb' : (i.bytes : Int) * (n : Int) ≤ 281474976710656 := by
    rw [hby]
    have h : ((bytes * n : Nat) : Int) ≤ 281474976710656 := by omega
    rwa [Int.natCast_mul] at h
  have hr := run_make (P := P) w t e i z T.ht hi hz kl kc (n : Int) (n : Int) (by omega) (by omega) hb' (by omega)
  rw [hr]
  simp only [Int.toNat_natCast, hs]
theorem madeCells_one (z : Array Value) (n : Nat) (hz : z.toList.all (·.oneCell') = true) (h0 : 0 < z.size) : ∀ u ∈ (madeCells z n).toList, u.oneCell' = true := fun u hu => by
  rw [List.all_eq_true] at hz
  simp only [madeCells, Array.toList_map, List.mem_map] at hu
  obtain ⟨j, _, rfl⟩ := hu
  have hlt : j % z.size < z.size := Nat.mod_lt _ h0
  rw [getElem!_pos z _ hlt]
  exact hz _ (by simp)

/-- all blocks but those of two types are as they were -/
def KeepNot (e tt : TypeId) (w w' : World) : Prop := ∀ (k : Nat) (o : Obj), w.heap[k]? = some o → (∀ cs, o ≠ .cells cs e (0, 0) ∧ o ≠ .cells cs tt (0, 0)) → w'.heap[k]? = some o
section
variable {e tt : TypeId} {w w1 w2 : World}
theorem KeepNot.grow (h : Grow w w1) : KeepNot e tt w w1 := fun k _ hk _ => (h.block k (Array.getElem?_eq_some_iff.1 hk).1).trans hk
theorem KeepNot.trans (h : KeepNot e tt w w1) (h' : KeepNot e tt w1 w2) : KeepNot e tt w w2 := fun k o hk ho => h' k o (h k o hk ho) ho
theorem KeepNot.turn {b t : Nat} {cs : Array Value} (h : Keep (fun j => j = b) w w1) (hb : w.heap[b]? = some (.cells cs t (0, 0))) (ht : t = e ∨ t = tt) : KeepNot e tt w w1 := fun k o hk ho => h.obj hk fun hkb => by
  subst hkb
  rw [hb] at hk
  cases hk
  rcases ht with rfl | rfl
  · exact (ho cs).1 rfl
  · exact (ho cs).2 rfl
theorem KeepNot.blk (h : KeepNot e tt w w1) {g t : Nat} {cs : Array Value} (hb : Blk w g t cs) (h1 : t ≠ e) (h2 : t ≠ tt) : Blk w1 g t cs := h g _ hb fun cs' => ⟨fun q => by injection q with _ q; exact h1 q, fun q => by injection q with _ q; exact h2 q⟩
theorem TwoWays.not {base s n m : Nat} {v v' : Value} {L : List Value} (h : TwoWays w v n m v' w1) (ho : w.ownsRow base e s v n L) : KeepNot e tt w w1 := by
  rcases h with ⟨g, cap, rfl, -, hg⟩ | ⟨-, hg⟩
  · obtain ⟨cur, hc⟩ := own_obj ho rfl
    exact KeepNot.turn ((Keep.grown hg).mono fun j hj => Or.inl (by injection hj with hj; exact hj.symm)) hc (Or.inl rfl)
  · exact KeepNot.grow hg
end

/-- what is asked of marks -/
structure MarkOk (e tt : TypeId) (s : Nat) (M : World → Nat → Nat → List Value → Prop) : Prop where
  len : ∀ {w k j cs}, M w k j cs → cs.length = s
  one : ∀ {w k j cs}, M w k j cs → ∀ u ∈ cs, u.oneCell' = true
  keep : ∀ {w w' k j cs}, M w k j cs → KeepNot e tt w w' → M w' k j cs

section
variable {e tt : TypeId} {s : Nat} {M : World → Nat → Nat → List Value → Prop}
/-- the first n elements of L are the marks of row k -/
def MarksTo (s : Nat) (M : World → Nat → Nat → List Value → Prop) (w : World) (k n : Nat) (L : List Value) : Prop := ∀ q, q < n → M w k q (seg s q L)
theorem MarksTo.keep (hM : MarkOk e tt s M) {w w' : World} {k n : Nat} {L : List Value} (h : MarksTo s M w k n L) (hk : KeepNot e tt w w') : MarksTo s M w' k n L := fun q hq => hM.keep (h q hq) hk
theorem MarksTo.app {w : World} {k n : Nat} {L X : List Value} (h : MarksTo s M w k n L) (hl : n * s ≤ L.length) : MarksTo s M w k n (L ++ X) := fun q hq => by
  have := Nat.mul_le_mul_right s (show q + 1 ≤ n from hq)
  rw [seg_app (by omega)]
  exact h q hq
theorem MarksTo.less {w : World} {k n m : Nat} {L : List Value} (h : MarksTo s M w k n L) (hm : m ≤ n) : MarksTo s M w k m L := fun q hq => h q (by omega)
theorem MarksTo.cut {w : World} {k n m : Nat} {L : List Value} (h : MarksTo s M w k n L) (hm : n * s ≤ m) : MarksTo s M w k n (L.take m) := fun q hq => by
  have := Nat.mul_le_mul_right s (show q + 1 ≤ n from hq)
  rw [seg_take (by omega)]
  exact h q hq
theorem MarksTo.snoc {w : World} {k n : Nat} {L X : List Value} (h : MarksTo s M w k n L) (hl : L.length = n * s) (hx : M w k n X) (hX : X.length = s) : MarksTo s M w k (n + 1) (L ++ X) := fun q hq => by
  rcases Nat.lt_or_ge q n with h1 | h1
  · exact h.app (by omega) q h1
  · obtain rfl : q = n := by omega
    rw [seg_new hl hX]
    exact hx

/-- while the rows are marked: rows ahead of k are, row k is up to i -/
structure PhM (e tt : TypeId) (s : Nat) (M : World → Nat → Nat → List Value → Prop) (w0 w : World) (B Bt : Nat) (A : Option Addr) (m c : Nat) (vs : List Value) (N : Nat → Nat) (k i : Nat) : Prop where
  tab : w.ownsRow Bt tt 1 (.slice A m c) m vs
  own : ∀ (j : Nat) (v : Value), vs[j]? = some v → ∃ L, w.ownsRow B e s v (N j) L ∧ ∀ q, q < N j → (j < k ∨ (j = k ∧ q < i)) → M w j q (seg s q L)
  keep : Keep (OwnS vs) w0 w

variable {w0 w w' : World} {B Bt : Nat} {A : Option Addr} {m c : Nat} {vs : List Value} {N : Nat → Nat} {k i : Nat}
theorem PhM.tab_ne (h : PhM e tt s M w0 w B Bt A m c vs N k i) (hne : e ≠ tt) {b : Nat} (hb : OwnS vs b) : (Value.slice A m c).ownBlock ≠ some b := fun hA => by
  obtain ⟨j, v, hv, hvb⟩ := hb
  obtain ⟨L, hL, _⟩ := h.own j v hv
  exact hne (own_types hL h.tab hvb hA)
theorem PhM.grow (hM : MarkOk e tt s M) (h : PhM e tt s M w0 w B Bt A m c vs N k i) (hg : Grow w w') : PhM e tt s M w0 w' B Bt A m c vs N k i :=
  ⟨own_below h.tab hg, fun j v hv => by
    obtain ⟨L, h1, h2⟩ := h.own j v hv
    exact ⟨L, own_below h1 hg, fun q hq hj => hM.keep (h2 q hq hj) (KeepNot.grow hg)⟩, h.keep.trans' (Keep.grow hg)⟩
theorem PhM.row (h : PhM e tt s M w0 w B Bt A m c vs N k (N k)) : PhM e tt s M w0 w B Bt A m c vs N (k + 1) 0 :=
  ⟨h.tab, fun j v hv => by
    obtain ⟨L, h1, h2⟩ := h.own j v hv
    exact ⟨L, h1, fun q hq hj => h2 q hq (by
      rcases hj with hj | ⟨_, hj⟩
      · rcases Nat.lt_or_ge j k with h3 | h3
        · exact Or.inl h3
        · obtain rfl : j = k := by omega
          exact Or.inr ⟨rfl, hq⟩
      · omega)⟩, h.keep⟩
theorem PhM.store (hM : MarkOk e tt s M) (h : PhM e tt s M w0 w B Bt A m c vs N k i) (hne : e ≠ tt) (hd : DistV vs) {b cap : Nat} (hv : vs[k]? = some (.slice (some ⟨b, 0, none⟩) (N k) cap)) (hi : i < N k) {cs : List Value} (hc : M w k i cs) :
    PhM e tt s M w0 (w.setCells b (i * s) cs) B Bt A m c vs N k (i + 1) := by
  have hk : Keep (fun j => j = b) w (w.setCells b (i * s) cs) := setCells_keep b cs w _
  have hS : OwnS vs b := ⟨k, _, hv, rfl⟩
  have hcl := hM.len hc
  obtain ⟨L0, hL0, _⟩ := h.own k _ hv
  obtain ⟨cur0, hcur⟩ := own_obj hL0 rfl
  have hkn : KeepNot e tt w (w.setCells b (i * s) cs) := KeepNot.turn hk hcur (Or.inl rfl)
  refine ⟨hk.own h.tab fun j hj hjb => h.tab_ne hne hS (by rw [hj, hjb]), fun j v hj => ?_, h.keep.trans' (hk.mono fun j hj => Or.inl (by rw [hj]; exact hS))⟩
  obtain ⟨L, h1, h2⟩ := h.own j v hj
  by_cases hjk : j = k
  · subst hjk
    rw [hv] at hj
    cases hj
    have hl : L.length = N j * s := h1.1
    have hle := Nat.mul_le_mul_right s (show i + 1 ≤ N j from hi)
    refine ⟨setRow L (i * s) cs, setCells_own cs h1 _, fun q hq hj => ?_⟩
    by_cases hqi : q = i
    · subst hqi
      rw [seg_setRow hcl (by omega)]
      exact hM.keep hc hkn
    · rw [seg_setRow_ne hcl (by omega) hqi]
      exact hM.keep (h2 q hq (by omega)) hkn
  · refine ⟨L, hk.own h1 fun b' hb' hbb => hd j k _ _ b hj hv hjk (by rw [hb', hbb]) rfl, fun q hq hj' => hM.keep (h2 q hq (by omega)) hkn⟩

/-- behind the marking: the rows are marked, gs is the table of what has grown of them -/
structure FBM (e tt : TypeId) (s : Nat) (M : World → Nat → Nat → List Value → Prop) (w0 w : World) (B Bt : Nat) (A : Option Addr) (m c : Nat) (vs : List Value) (N : Nat → Nat) (H0 q : Nat) (gs : List Value) : Prop where
  tab : w.ownsRow Bt tt 1 (.slice A m c) m vs
  own : ∀ (j : Nat) (v : Value), vs[j]? = some v → ∃ L, w.ownsRow B e s v (N j) L ∧ MarksTo s M w j (N j) L
  gtab : Blk w q tt gs.toArray
  glen : gs.length = m
  keep : Keep (OwnS vs) w0 w
  h0 : w0.heap.size ≤ H0
  hz : H0 ≤ w.heap.size
  hq : H0 ≤ q
  low : ∀ b, OwnS vs b → b < H0
  tlow : ∀ b, (Value.slice A m c).ownBlock = some b → b < H0
/-- the first k of gs: each has its row's marks, and X more; where they lie -/
structure GPM (e : TypeId) (s : Nat) (M : World → Nat → Nat → List Value → Prop) (w : World) (B : Nat) (vs gs : List Value) (N : Nat → Nat) (H0 k X : Nat) : Prop where
  own : ∀ (j : Nat) (g : Value), j < k → gs[j]? = some g → ∃ L, w.ownsRow B e s g (N j + 64) L ∧ MarksTo s M w j (N j + X) L
  home : ∀ (j : Nat) (g : Value) (b : Nat), j < k → gs[j]? = some g → g.ownBlock = some b → (∃ v, vs[j]? = some v ∧ v.ownBlock = some b) ∨ H0 ≤ b
  dist : ∀ (i j : Nat) (g g' : Value) (b : Nat), i < k → j < k → i ≠ j → gs[i]? = some g → gs[j]? = some g' → g.ownBlock = some b → g'.ownBlock ≠ some b

variable {H0 q : Nat} {gs : List Value} {X : Nat}
theorem FBM.grow (hM : MarkOk e tt s M) (h : FBM e tt s M w0 w B Bt A m c vs N H0 q gs) (hg : Grow w w') : FBM e tt s M w0 w' B Bt A m c vs N H0 q gs :=
  ⟨own_below h.tab hg, fun j v hv => by
    obtain ⟨L, h1, h2⟩ := h.own j v hv
    exact ⟨L, own_below h1 hg, h2.keep hM (KeepNot.grow hg)⟩, h.gtab.below hg h.gtab.lt, h.glen, h.keep.trans' (Keep.grow hg), h.h0, Nat.le_trans h.hz hg.size, h.hq, h.low, h.tlow⟩
theorem GPM.grow (hM : MarkOk e tt s M) (h : GPM e s M w B vs gs N H0 k X) (hg : Grow w w') : GPM e s M w' B vs gs N H0 k X :=
  ⟨fun j g hj hgj => by
    obtain ⟨L, h1, h2⟩ := h.own j g hj hgj
    exact ⟨L, own_below h1 hg, h2.keep hM (KeepNot.grow hg)⟩, h.home, h.dist⟩
theorem GPM.turn (hM : MarkOk e tt s M) (h : GPM e s M w B vs gs N H0 k X) {x : Nat} (hk : Keep (fun b => b = x) w w') (hn : KeepNot e tt w w') (hx : ∀ (j : Nat) (g : Value), j < k → gs[j]? = some g → g.ownBlock ≠ some x) : GPM e s M w' B vs gs N H0 k X :=
  ⟨fun j g hj hgj => by
    obtain ⟨L, h1, h2⟩ := h.own j g hj hgj
    exact ⟨L, hk.own h1 fun b hb hbx => hx j g hj hgj (by rw [hb, hbx]), h2.keep hM hn⟩, h.home, h.dist⟩
/-- a block of elements turns -/
theorem FBM.turn (hM : MarkOk e tt s M) (h : FBM e tt s M w0 w B Bt A m c vs N H0 q gs) {x : Nat} (hk : Keep (fun b => b = x) w w') (hn : KeepNot e tt w w') (hx1 : (Value.slice A m c).ownBlock ≠ some x) (hx2 : x ≠ q) (hx3 : OwnS vs x ∨ w0.heap.size ≤ x)
    (hv : ∀ (j : Nat) (v : Value), vs[j]? = some v → v.ownBlock = some x → ∃ L, w'.ownsRow B e s v (N j) L ∧ MarksTo s M w' j (N j) L) : FBM e tt s M w0 w' B Bt A m c vs N H0 q gs := by
  refine ⟨hk.own h.tab fun b hb hbx => hx1 (by rw [hb, hbx]), fun j v hj => ?_, hk.blk h.gtab (fun e => hx2 e.symm), h.glen, h.keep.trans hk fun j hj => by rw [hj]; exact hx3, h.h0, Nat.le_trans h.hz hk.size, h.hq, h.low, h.tlow⟩
  by_cases hb : v.ownBlock = some x
  · exact hv j v hj hb
  · obtain ⟨L, h1, h2⟩ := h.own j v hj
    exact ⟨L, hk.own h1 fun b hb' hbx => hb (by rw [hb', hbx]), h2.keep hM hn⟩
/-- a cell of gs is stored -/
theorem FBM.setTab (hM : MarkOk e tt s M) (h : FBM e tt s M w0 w B Bt A m c vs N H0 q gs) (hne : e ≠ tt) (k : Nat) (g : Value) : FBM e tt s M w0 (w.setCell ⟨q, k, none⟩ g) B Bt A m c vs N H0 q (gs.set k g) := by
  have hk : Keep (fun b => b = q) w (w.setCell ⟨q, k, none⟩ g) := Keep.setCell w ⟨q, k, none⟩ g
  have hn : KeepNot e tt w (w.setCell ⟨q, k, none⟩ g) := KeepNot.turn hk h.gtab (Or.inr rfl)
  refine ⟨hk.own h.tab fun b hb hbq => by have := h.tlow b hb; have := h.hq; omega, fun j v hj => ?_, ?_, by rw [List.length_set]; exact h.glen, h.keep.trans hk fun j hj => Or.inr (by rw [hj]; exact Nat.le_trans h.h0 h.hq), h.h0, by rw [size_setCell]; exact h.hz, h.hq, h.low, h.tlow⟩
  · obtain ⟨L, h1, h2⟩ := h.own j v hj
    exact ⟨L, hk.own h1 fun b hb hbq => hne (own_type_blk h1 (by rw [hb, hbq]) h.gtab), h2.keep hM hn⟩
  · have := h.gtab.set k g
    simpa using this
/-- one more stands in gs -/
theorem GPM.put (hM : MarkOk e tt s M) (h : GPM e s M w B vs gs N H0 k X) (hfb : FBM e tt s M w0 w B Bt A m c vs N H0 q gs) (hne : e ≠ tt) (hd : DistV vs) {g : Value} {L : List Value} (hg : w.ownsRow B e s g (N k + 64) L) (hL : MarksTo s M w k (N k + X) L) (hloc : LocV vs gs N H0 k g (N k + 64)) (hk : k < m) :
    GPM e s M (w.setCell ⟨q, k, none⟩ g) B vs (gs.set k g) N H0 (k + 1) X := by
  have hkp : Keep (fun b => b = q) w (w.setCell ⟨q, k, none⟩ g) := Keep.setCell w ⟨q, k, none⟩ g
  have hn : KeepNot e tt w (w.setCell ⟨q, k, none⟩ g) := KeepNot.turn hkp hfb.gtab (Or.inr rfl)
  have hkl : k < gs.length := by rw [hfb.glen]; exact hk
  have get : ∀ (j : Nat) (g' : Value), j < k + 1 → (gs.set k g)[j]? = some g' → (j = k ∧ g' = g) ∨ (j < k ∧ gs[j]? = some g') := fun j g' hj h1 => by
    by_cases hjk : j = k
    · subst hjk
      rw [List.getElem?_set_self hkl] at h1
      cases h1
      exact Or.inl ⟨rfl, rfl⟩
    · rw [List.getElem?_set_ne (by omega)] at h1
      exact Or.inr ⟨by omega, h1⟩
  have far : ∀ (j : Nat) (g' : Value) (b : Nat), j < k → gs[j]? = some g' → g'.ownBlock = some b → g.ownBlock ≠ some b := fun j g' b hj hg' hb hgb => by
    rcases hloc with ⟨b', cap, rfl, hv⟩ | hloc
    · injection hgb with hgb
      have hgb : b' = b := hgb
      subst hgb
      rcases h.home j g' b' hj hg' hb with ⟨v, h1, h2⟩ | h1
      · exact hd j k _ _ b' h1 hv (by omega) h2 rfl
      · have := hfb.low b' ⟨k, _, hv, rfl⟩
        omega
    · exact (hloc b hgb).2 j g' hj hg' hb
  refine ⟨fun j g' hj h1 => ?_, fun j g' b hj h1 hb => ?_, fun i j g1 g2 b hi hj hij h1 h2 hb => ?_⟩
  · rcases get j g' hj h1 with ⟨rfl, rfl⟩ | ⟨hj, h1⟩
    · exact ⟨L, hkp.own hg fun b hb hbq => hne (own_type_blk hg (by rw [hb, hbq]) hfb.gtab), hL.keep hM hn⟩
    · obtain ⟨L', h3, h4⟩ := h.own j g' hj h1
      exact ⟨L', hkp.own h3 fun b hb hbq => hne (own_type_blk h3 (by rw [hb, hbq]) hfb.gtab), h4.keep hM hn⟩
  · rcases get j g' hj h1 with ⟨rfl, rfl⟩ | ⟨hj, h1⟩
    · rcases hloc with ⟨b', cap, rfl, hv⟩ | hloc
      · exact Or.inl ⟨_, hv, hb⟩
      · exact Or.inr (hloc b hb).1
    · exact h.home j g' b hj h1 hb
  · rcases get i g1 hi h1 with ⟨e1, e2⟩ | ⟨hi', h1'⟩
    · rcases get j g2 hj h2 with ⟨e3, e4⟩ | ⟨hj', h2'⟩
      · omega
      · exact fun h3 => far j g2 b hj' h2' h3 (by rw [← e2]; exact hb)
    · rcases get j g2 hj h2 with ⟨e3, e4⟩ | ⟨hj', h2'⟩
      · rw [e4]
        exact far i g1 b hi' h1' hb
      · exact h.dist i j g1 g2 b hi' hj' hij h1' h2' hb
/-- what grows of row k grows once more -/
theorem step_twoM (hM : MarkOk e tt s M) (hne : e ≠ tt) (hd : DistV vs) (hfb : FBM e tt s M w0 w B Bt A m c vs N H0 q gs) (hgp : GPM e s M w B vs gs N H0 k X) {g g' : Value} {n mm : Nat} {L news : List Value} (hg : w.ownsRow B e s g n L) (hpre : MarksTo s M w k (N k) L) (hn : N k ≤ n)
    (hloc : LocV vs gs N H0 k g n) (hown' : w'.ownsRow B e s g' (n + mm) (L ++ news)) (htw : TwoWays w g n mm g' w') : FBM e tt s M w0 w' B Bt A m c vs N H0 q gs ∧ GPM e s M w' B vs gs N H0 k X ∧ LocV vs gs N H0 k g' (n + mm) := by
  have hLl : L.length = n * s := hg.1
  have hkn : KeepNot e tt w w' := htw.not hg
  have hle := Nat.mul_le_mul_right s hn
  rcases htw with ⟨b, cap, rfl, rfl, hgr⟩ | ⟨hb, hgr⟩
  · have hk : Keep (fun j => j = b) w w' := (Keep.grown hgr).mono fun j hj => Or.inl (by injection hj with hj; exact hj.symm)
    have hx1 : (Value.slice A m c).ownBlock ≠ some b := fun hA => hne (own_types hg hfb.tab rfl hA)
    have hx2 : b ≠ q := fun hbq => by
      subst hbq
      exact hne (own_type_blk hg rfl hfb.gtab)
    rcases hloc with ⟨b', cap', hgv, hv⟩ | hloc
    · injection hgv with h1 h2 h3
      injection h1 with h1
      injection h1 with h1
      subst h1 h3
      have hx4 : ∀ (j : Nat) (g : Value), j < k → gs[j]? = some g → g.ownBlock ≠ some b := fun j g hj hgj hb => by
        rcases hgp.home j g b hj hgj hb with ⟨v, h4, h5⟩ | h4
        · exact hd j k _ _ b h4 hv (by omega) h5 rfl
        · have := hfb.low b ⟨k, _, hv, rfl⟩
          omega
      refine ⟨hfb.turn hM hk hkn hx1 hx2 (Or.inl ⟨k, _, hv, rfl⟩) fun j v hj hvb => ?_, hgp.turn hM hk hkn hx4, Or.inl ⟨b, cap, rfl, hv⟩⟩
      by_cases hjk : j = k
      · subst hjk
        rw [hv] at hj
        cases hj
        have h9 := own_prefix hown' (k := N j) (by omega)
        rw [List.take_append_of_le_length (by omega)] at h9
        exact ⟨_, h9, (hpre.keep hM hkn).cut (Nat.le_refl _)⟩
      · exact absurd rfl (hd j k _ _ b hj hv hjk hvb)
    · have h1 := hloc b rfl
      refine ⟨hfb.turn hM hk hkn hx1 hx2 (Or.inr (Nat.le_trans hfb.h0 h1.1)) fun j v hj hvb => ?_, hgp.turn hM hk hkn h1.2, Or.inr fun b' hb' => hloc b' hb'⟩
      have := hfb.low b ⟨j, v, hj, hvb⟩
      omega
  · refine ⟨hfb.grow hM hgr, hgp.grow hM hgr, Or.inr fun b' hb' => ?_⟩
    obtain rfl := hb b' hb'
    refine ⟨hfb.hz, fun j g1 hj hg1 hb1 => ?_⟩
    obtain ⟨L1, h1, _⟩ := hgp.own j g1 hj hg1
    have := (h1.lt _ hb1).2
    omega
theorem LocV.startM (hfb : FBM e tt s M w0 w B Bt A m c vs N H0 q gs) {v : Value} (hv : vs[k]? = some v) : LocV vs gs N H0 k v (N k) := by
  obtain ⟨L, h1, _⟩ := hfb.own k v hv
  rcases h1.2 with ⟨rfl, _⟩ | ⟨b, cap, cur, rfl, _⟩
  · exact Or.inr fun b h => by cases h
  · exact Or.inl ⟨b, cap, rfl, hv⟩
theorem GPM.none : GPM e s M w B vs gs N H0 0 X := ⟨fun _ _ h => absurd h (by omega), fun _ _ _ h => absurd h (by omega), fun _ _ _ _ _ h => absurd h (by omega)⟩
theorem PhM.done (h : PhM e tt s M w0 w B Bt A m c vs N m 0) : ∀ (j : Nat) (v : Value), vs[j]? = some v → ∃ L, w.ownsRow B e s v (N j) L ∧ MarksTo s M w j (N j) L := fun j v hv => by
  obtain ⟨L, h1, h2⟩ := h.own j v hv
  have hjm : j < m := by
    have h3 := (List.getElem?_eq_some_iff.1 hv).1
    have h4 := h.tab.1
    omega
  exact ⟨L, h1, fun q hq => h2 q hq (Or.inl hjm)⟩
theorem PhM.start (hM : MarkOk e tt s M) (h : PhM e tt s M w0 w B Bt A m c vs N m 0) (z : List Value) (hz : z.length = m) : FBM e tt s M w0 (w.alloc (.cells z.toArray tt)) B Bt A m c vs N w.heap.size w.heap.size z :=
  ⟨own_below h.tab (Grow.alloc _ _), fun j v hv => by
    obtain ⟨L, h1, h2⟩ := h.done j v hv
    exact ⟨L, own_below h1 (Grow.alloc _ _), h2.keep hM (KeepNot.grow (Grow.alloc _ _))⟩, Blk.new _ _ _, hz, h.keep.trans' (Keep.alloc _ _), h.keep.size, by simp, Nat.le_refl _, (fun b ⟨j, v, hv, hb⟩ => by
      obtain ⟨L, h1, _⟩ := h.done j v hv
      exact (h1.lt b hb).2), fun b hb => (h.tab.lt b hb).2⟩
/-- the row of elements reads as cells at a place -/
theorem own_seg {w : World} {base e g n cap s q : Nat} {L : List Value} (h : w.ownsRow base e s (.slice (some ⟨g, 0, none⟩) n cap) n L) (hq : q < n) : w.rangeAt g (q * s) (seg s q L) := fun j v hj => by
  rw [seg_get] at hj
  split at hj
  · rename_i hjs
    have := Nat.mul_le_mul_right s (show q + 1 ≤ n from hq)
    rw [Nat.add_mul, Nat.one_mul] at this
    rw [h.cellAt _ (by omega)]
    exact hj
  · cases hj
theorem own_there {w : World} {base e g n cap s q : Nat} {L : List Value} (h : w.ownsRow base e s (.slice (some ⟨g, 0, none⟩) n cap) n L) (hq : q < n) : w.there g (q * s) s := fun j hj => by
  have := Nat.mul_le_mul_right s (show q + 1 ≤ n from hq)
  rw [Nat.add_mul, Nat.one_mul] at this
  rw [h.cellAt _ (by omega)]
  exact ⟨by rw [List.getElem?_eq_getElem (by rw [h.1]; omega)]; rfl, own_free h _⟩
theorem there_grow {w w' : World} {g o n : Nat} (h : w.there g o n) (hg : Grow w w') : w'.there g o n := fun j hj => by
  obtain ⟨h1, h2⟩ := h j hj
  obtain ⟨u, hu⟩ := Option.isSome_iff_exists.1 h1
  have hb : g < w.heap.size := World.block_lt_of_cell? w _ hu
  exact ⟨by rw [hg.cell (p := ⟨g, o + j, none⟩) hb]; exact h1, by rw [hg.frozen (p := ⟨g, o + j, none⟩) hb]; exact h2⟩
theorem range_grow {w w' : World} {g o : Nat} {cs : List Value} (h : w.rangeAt g o cs) (hg : Grow w w') : w'.rangeAt g o cs := fun j v hj => by
  have h1 := h j v hj
  have hb : g < w.heap.size := World.block_lt_of_cell? w _ h1
  rw [hg.cell (p := ⟨g, o + j, none⟩) hb]
  exact h1
theorem blk_there {w : World} {g t s q n : Nat} {L : List Value} (h : Blk w g t L.toArray) (hl : L.length = n * s) (hq : q < n) : w.there g (q * s) s := fun j hj => by
  have := Nat.mul_le_mul_right s (show q + 1 ≤ n from hq)
  rw [Nat.add_mul, Nat.one_mul] at this
  rw [h.cell]
  exact ⟨by rw [List.getElem?_toArray, List.getElem?_eq_getElem (by omega)]; rfl, h.frozen _⟩
theorem BlkReads {w : World} {g t s n : Nat} {L : List Value} (h : Blk w g t L.toArray) (hl : L.length = n * s) : ReadsAt w w.heap.size s (some ⟨g, 0, none⟩) n L :=
  ⟨hl, fun _ => ⟨g, 0, rfl, h.lt, fun j u hu => by rw [h.cell, Nat.zero_add]; simpa using hu⟩⟩
/-- a region that stores a mark as its last operation -/
def StoreW (wr : World) (b off : Nat) (R : World → List Value → Prop) : List Value → World → Prop
  | [], w => Grow wr w
  | _ :: _, w => ∃ w3 cs, Grow wr w3 ∧ R w3 cs ∧ Grow (w3.setCells b off cs) w
theorem StoreW.grow {wr : World} {b off : Nat} {R : World → List Value → Prop} : ∀ vals x y, Grow x y → StoreW wr b off R vals x → StoreW wr b off R vals y
  | [], _, _, hg, h => Grow.trans h hg
  | _ :: _, _, _, hg, ⟨w3, cs, h1, h2, h3⟩ => ⟨w3, cs, h1, h2, h3.trans hg⟩
theorem keepNot_trans : ∀ x y z, KeepNot e tt x y → KeepNot e tt y z → KeepNot e tt x z := fun _ _ _ h h' => h.trans h'
theorem keepNot_grow : ∀ x y, Grow x y → KeepNot e tt x y := fun _ _ h => KeepNot.grow h
/-- the mark of a place, as a value of more than one cell -/
def FactOn.mrk (hM : MarkOk e tt s M) (k i : Nat) : FactOn (KeepNot e tt) := ⟨fun u w => ∃ cs : List Value, u = .agg cs.toArray ∧ M w k i cs, fun _ _ _ hk ⟨cs, h1, h2⟩ => ⟨cs, h1, hM.keep h2 hk⟩⟩
end
end Go.Proofs.Ytamdejidkgnaeaa

namespace Go.Proofs.Ytamdejidkgnaeaa
open Go.RowKit

/-- no operation of a list writes a slot -/
def notSlot (l : List Oper) (n : Nat) : Bool := l.all fun o => match o.dst with
  | none => true
  | some d => !Nat.beq d n
/-- which operation of a list writes a slot; no other one does -/
def slotAt : List Oper → Nat → Nat → Option Nat
  | [], _, _ => none
  | o :: r, k, n => match o.dst with
    | none => slotAt r (k + 1) n
    | some d => bif Nat.beq d n then (bif notSlot r n then some k else none) else slotAt r (k + 1) n
theorem notSlot_ne {l : List Oper} {n : Nat} (h : notSlot l n = true) : ∀ o ∈ l, o.dst ≠ some n := fun o ho e => by
  have h1 := List.all_eq_true.1 h o ho
  rw [e] at h1
  simp at h1
theorem fills_size : ∀ (l : List Oper) (k : Nat) (us : Nat → Value) (a : Act), (fills l k us a).tmps.size = a.tmps.size
  | [], _, _, _ => rfl
  | o :: r, k, us, a => by
    rw [fills, fills_size]
    cases h : o.dst <;> simp [Act.put]
theorem fills_old : ∀ (l : List Oper) (k n : Nat) (us : Nat → Value) (a : Act), (∀ o ∈ l, o.dst ≠ some n) → (fills l k us a).tmps[n]? = a.tmps[n]?
  | [], _, _, _, _, _ => rfl
  | o :: r, k, n, us, a, h => by
    rw [fills, fills_old r (k + 1) n us _ fun o' ho => h o' (by simp [ho])]
    have h1 := h o (by simp)
    cases hd : o.dst with
    | none => simp [Act.put]
    | some d =>
      rw [hd] at h1
      simp only [Act.put]
      rw [Array.getElem?_setIfInBounds_ne]
      intro e
      exact h1 (by rw [e])
theorem fills_get : ∀ (l : List Oper) (k n j : Nat) (us : Nat → Value) (a : Act), slotAt l k n = some j → n < a.tmps.size → (fills l k us a).tmps[n]? = some (us j)
  | [], _, _, _, _, _, h, _ => by cases h
  | o :: r, k, n, j, us, a, h, hs => by
    rw [slotAt] at h
    rw [fills]
    cases hd : o.dst with
    | none =>
      rw [hd] at h
      exact fills_get r (k + 1) n j us _ h (by simp [Act.put, hs])
    | some d =>
      rw [hd] at h
      cases hb : Nat.beq d n with
      | true =>
        simp only [hb, cond_true] at h
        obtain rfl := Nat.eq_of_beq_eq_true hb
        cases hn : notSlot r d with
        | true =>
          rw [hn] at h
          cases h
          rw [fills_old _ _ _ _ _ (notSlot_ne hn)]
          simp [Act.put, hs]
        | false =>
          rw [hn] at h
          cases h
      | false =>
        simp only [hb, cond_false] at h
        exact fills_get r (k + 1) n j us _ h (by simp [Act.put, hs])
/-- the slot that operation j of a region writes -/
theorem slot_get {ops : List Oper} {us : Nat → Value} {a a' : Act} (ha : Hid (a' = fills ops 0 us a)) {n : Nat} (j : Nat) (h : slotAt ops 0 n = some j := by kernel_rfl) (hs : Nat.ble (n + 1) a.tmps.size = true := by kernel_rfl) : a'.tmps[n]? = some (us j) := by
  rw [ha.out]
  exact fills_get _ _ _ _ _ _ h (Nat.le_of_ble_eq_true hs)
/-- a slot that no operation of a region writes -/
theorem slot_old {ops : List Oper} {us : Nat → Value} {a a' : Act} (ha : Hid (a' = fills ops 0 us a)) {n : Nat} {v : Value} (h : notSlot ops n = true := by kernel_rfl) (h0 : a.tmps[n]? = some v := by kernel_rfl) : a'.tmps[n]? = some v := by
  rw [ha.out, fills_old _ _ _ _ _ (notSlot_ne h)]
  exact h0
end Go.Proofs.Ytamdejidkgnaeaa

namespace Go.Proofs.Ytamdejidkgnaeaa
open Go.RowKit

theorem wp_exits {P : Program} {o : Oper} {a : Act} {w : World} {K : Act → World → Prop} {Q Q' : Exit → Act → World → Prop} (h : ∀ x a w, x ≠ .normal → Q x a w → Q' x a w) (hh : o.wp P a w K Q) : o.wp P a w K Q' := by
  have hl : LetsOut Q → LetsOut Q' := fun ⟨a, w, q⟩ => ⟨a, w, h _ _ _ (by simp) q⟩
  unfold Oper.wp at *
  generalize (execOp a.eval o).run P w = r at *
  cases r with
  | ok n w' =>
    cases n <;> simp only [Oper.upon] at hh ⊢ <;>
      first
        | exact hh
        | exact Calls.mono hh (fun e w'' he => by
            cases e
            · exact he
            · exact h _ _ _ (by simp) he
            · exact hl he)
  | halt x w' => cases x <;> simp only [Oper.upon] at hh ⊢ <;> first | exact h _ _ _ (by simp) hh | exact hh

/-- behind all but the last operation, the last one -/
def lastQ (P : Program) (o : Oper) (Q : Exit → Act → World → Prop) : Exit → Act → World → Prop := fun x a w => (x = .normal ∧ o.wp P a w (Q .normal) Q) ∨ (x ≠ .normal ∧ Q x a w)
def lastOk (pre : Array Oper) (o : Oper) : Bool :=
  regionOk pre && pre.toList.all (fun p => match p.guard with
    | none => true
    | some (j, _) => decide (j < pre.size)) && o.guard.isNone && (List.range pre.size).all (fun j => o.after.toList.any fun e => Region.binds .any e && e.on == j) && o.after.toList.all (fun e => decide (e.on < pre.size))

section
variable {P : Program} {pre : Array Oper} {o : Oper} {Q : Exit → Act → World → Prop}
theorem ready_iff {ops : Array Oper} {listed : Array Bool} {i : Nat} : i ∈ Region.ready .any ops listed ↔ ∃ o, ops[i]? = some o ∧ listed.getD i true = false ∧ ∀ e ∈ o.after, Region.binds .any e = true → listed.getD e.on false = true := by
  refine ⟨ready_mem, fun ⟨o, ho, h2, h3⟩ => ?_⟩
  have hi := (Array.getElem?_eq_some_iff.1 ho).1
  have he := (Array.getElem?_eq_some_iff.1 ho).2
  simp only [Region.ready, List.mem_filter, List.mem_range, Bool.and_eq_true, Bool.not_eq_true']
  refine ⟨hi, h2, ?_⟩
  simp only [hi, getElem?_pos, Option.map_some, Option.getD_some]
  rw [Array.all_eq_true]
  intro j hj
  have h4 : ops[i].after[j] ∈ o.after := by rw [← he]; exact Array.getElem_mem hj
  cases hb : Region.binds .any ops[i].after[j] with
  | false => simp
  | true =>
    have := h3 _ h4 hb
    simpa using this
theorem getD_push (listed : Array Bool) (d : Bool) (j : Nat) (hj : j < listed.size) : (listed.push false).getD j d = listed.getD j d := by
  simp [Array.getD, hj, Nat.lt_succ_of_lt hj, Array.getElem_push_lt]
theorem anyOrder_last (hok : lastOk pre o = true) : ∀ (fuel : Nat) (listed : Array Bool) (a : Act) (w : World), listed.size = pre.size → anyOrder P pre (lastQ P o Q) fuel listed a w → anyOrder P (pre.push o) Q (fuel + 1) (listed.push false) a w := by
  simp only [lastOk, Bool.and_eq_true] at hok
  obtain ⟨⟨⟨⟨hB, hG⟩, hN⟩, hA⟩, hE⟩ := hok
  have hgd : o.guard = none := by simpa using hN
  have hbefore : ∀ (i : Nat) (o' : Oper), pre[i]? = some o' → ∀ e ∈ o'.after, Region.binds .any e = true → e.on < pre.size := fun i o' ho e he hb0 => by
    simp only [regionOk, Bool.and_eq_true] at hB
    have hi := (Array.getElem?_eq_some_iff.1 ho).1
    have hz := List.all_eq_true.1 hB.2 (o', i) (by rw [List.mem_zipIdx_iff_getElem?]; simpa using ho)
    obtain ⟨j, hj, rfl⟩ := Array.mem_iff_getElem.1 he
    have := (Array.all_eq_true.1 hz) j hj
    simp only [hb0, Bool.not_true, Bool.false_or, decide_eq_true_eq] at this
    omega
  have hone : ∀ e ∈ o.after, e.on < pre.size := fun e he => by
    have := List.all_eq_true.1 hE e (by simpa using he)
    simpa using this
  have hall : ∀ j, j < pre.size → ∃ e ∈ o.after, Region.binds .any e = true ∧ e.on = j := fun j hj => by
    have := List.all_eq_true.1 hA j (List.mem_range.2 hj)
    obtain ⟨e, he, h2⟩ := List.any_eq_true.1 this
    simp only [Bool.and_eq_true, beq_iff_eq] at h2
    exact ⟨e, by simpa using he, h2.1, h2.2⟩
  have hlow : ∀ (listed : Array Bool) (i : Nat), listed.size = pre.size → i < pre.size → (i ∈ Region.ready .any (pre.push o) (listed.push false) ↔ i ∈ Region.ready .any pre listed) := fun listed i hs hi => by
    rw [ready_iff, ready_iff]
    have e1 : (pre.push o)[i]? = pre[i]? := by rw [Array.getElem?_push, if_neg (by omega)]
    rw [e1, getD_push _ _ _ (by omega)]
    constructor
    · rintro ⟨o', h1, h2, h3⟩
      exact ⟨o', h1, h2, fun e he hb => by have := h3 e he hb; rwa [getD_push _ _ _ (by have := hbefore i o' h1 e he hb; omega)] at this⟩
    · rintro ⟨o', h1, h2, h3⟩
      exact ⟨o', h1, h2, fun e he hb => by rw [getD_push _ _ _ (by have := hbefore i o' h1 e he hb; omega)]; exact h3 e he hb⟩
  have htop : ∀ (listed : Array Bool), listed.size = pre.size → (pre.size ∈ Region.ready .any (pre.push o) (listed.push false) ↔ ∀ j, j < pre.size → listed.getD j false = true) := fun listed hs => by
    rw [ready_iff]
    have e1 : (pre.push o)[pre.size]? = some o := by simp
    have e2 : (listed.push false).getD pre.size true = false := by simp [← hs, Array.getD]
    constructor
    · rintro ⟨o', h1, h2, h3⟩ j hj
      rw [e1] at h1
      cases h1
      obtain ⟨e, he, hb, rfl⟩ := hall j hj
      have := h3 e he hb
      rwa [getD_push _ _ _ (by omega)] at this
    · intro h
      exact ⟨o, e1, e2, fun e he hb => by rw [getD_push _ _ _ (by have := hone e he; omega)]; exact h _ (hone e he)⟩
  have hnone : ∀ (listed : Array Bool), (∀ j, j < pre.size + 1 → listed.getD j true = true) → Region.ready .any (pre.push o) listed = [] := fun listed h => by
    cases hr : Region.ready .any (pre.push o) listed with
    | nil => rfl
    | cons i r =>
      exfalso
      obtain ⟨o', ho, hl, _⟩ := ready_iff.1 (show i ∈ Region.ready .any (pre.push o) listed by rw [hr]; simp)
      have hi := (Array.getElem?_eq_some_iff.1 ho).1
      have := h i (by simpa using hi)
      rw [hl] at this
      cases this
  have hdone : ∀ (listed : Array Bool), listed.size = pre.size → Region.ready .any pre listed = [] → ∀ j, j < pre.size + 1 → ((listed.push false).setIfInBounds pre.size true).getD j true = true := fun listed hs hr j hj => by
    have hl := ready_nil hB hs hr
    by_cases h : j = pre.size
    · subst h
      simp [Array.getD, ← hs]
    · have h1 := hl j (by omega)
      rw [Array.getD_eq_getD_getElem?, Array.getElem?_setIfInBounds_ne (Ne.symm h), ← Array.getD_eq_getD_getElem?, getD_push _ _ _ (by omega)]
      have h2 : j < listed.size := by omega
      simpa [Array.getD, h2] using h1
  have hfin : ∀ (fuel : Nat) (listed : Array Bool) (a : Act) (w : World), listed.size = pre.size → Region.ready .any pre listed = [] → lastQ P o Q .normal a w → anyOrder P (pre.push o) Q (fuel + 1) (listed.push false) a w := fun fuel listed a w hs hr hq => by
    have hl := ready_nil hB hs hr
    have hmem := (htop listed hs).2 hl
    refine ⟨fun h => by rw [h] at hmem; simp at hmem, fun i hi => ?_⟩
    have hil : i = pre.size := by
      obtain ⟨o', ho, _⟩ := ready_iff.1 hi
      have h1 := (Array.getElem?_eq_some_iff.1 ho).1
      rcases Nat.lt_or_ge i pre.size with h | h
      · have := (hlow listed i hs h).1 hi
        rw [hr] at this
        simp at this
      · simp at h1; omega
    subst hil
    unfold opAt
    have e1 : (pre.push o)[pre.size]? = some o := by simp
    simp only [e1]
    rw [if_pos (wanted_none hgd)]
    rcases hq with ⟨_, hq⟩ | ⟨hq, _⟩
    · refine Oper.wp_mono (fun a' w' h => ?_) hq
      have hn := hnone _ (hdone listed hs hr)
      cases fuel with
      | zero => exact ⟨hn, h⟩
      | succ fuel => exact ⟨fun _ => h, fun i hi => by rw [hn] at hi; simp at hi⟩
    · exact absurd rfl hq
  intro fuel
  induction fuel with
  | zero => intro listed a w hs h; exact hfin 0 listed a w hs h.1 h.2
  | succ fuel ih =>
    intro listed a w hs h
    cases hr : Region.ready .any pre listed with
    | nil => exact hfin _ listed a w hs hr (h.1 hr)
    | cons i0 r0 =>
      have hi0 : i0 ∈ Region.ready .any pre listed := by rw [hr]; simp
      obtain ⟨o0, ho0, hl0, _⟩ := ready_iff.1 hi0
      have hlt0 := (Array.getElem?_eq_some_iff.1 ho0).1
      refine ⟨fun he => ?_, fun i hi => ?_⟩
      · have := (hlow listed i0 hs hlt0).2 hi0
        rw [he] at this
        simp at this
      · have hilt : i < pre.size := by
          obtain ⟨o', ho, _⟩ := ready_iff.1 hi
          have h1 := (Array.getElem?_eq_some_iff.1 ho).1
          rcases Nat.lt_or_ge i pre.size with h2 | h2
          · exact h2
          · exfalso
            have h3 : i = pre.size := by simp at h1; omega
            subst h3
            have h4 := (htop listed hs).1 hi i0 hlt0
            have h5 : i0 < listed.size := by omega
            have h6 : listed.getD i0 true = listed.getD i0 false := by simp [Array.getD, h5]
            rw [h6, h4] at hl0
            cases hl0
        have h1 := h.2 i ((hlow listed i hs hilt).1 hi)
        have e1 : (pre.push o)[i]? = pre[i]? := by rw [Array.getElem?_push, if_neg (by omega)]
        have e2 : (listed.push false).setIfInBounds i true = (listed.setIfInBounds i true).push false := by
          apply Array.ext_getElem?
          intro j
          simp only [Array.getElem?_setIfInBounds, Array.getElem?_push, Array.size_push, Array.size_setIfInBounds]
          split <;> split <;> (try split) <;> (try split) <;> simp_all <;> omega
        have e3 : ∀ o' : Oper, pre[i]? = some o' → Region.wanted o' (yielded (pre.push o) a.tmps) = Region.wanted o' (yielded pre a.tmps) := fun o' ho => by
          have h2 := List.all_eq_true.1 hG o' (by simpa using Array.mem_of_getElem? ho)
          unfold Region.wanted
          cases hgd' : o'.guard with
          | none => rfl
          | some p =>
            obtain ⟨j, b⟩ := p
            rw [hgd'] at h2
            simp only [decide_eq_true_eq] at h2
            simp only [yielded]
            rw [Array.getElem?_push, if_neg (by omega)]
        unfold opAt at h1 ⊢
        rw [e1]
        cases ho : pre[i]? with
        | none =>
          simp only [ho] at h1 ⊢
          rw [e2]
          exact ih _ _ _ (by simpa using hs) h1
        | some o' =>
          simp only [ho] at h1 ⊢
          rw [e3 o' ho]
          split
          · rename_i hw
            rw [if_pos hw] at h1
            refine Oper.wp_mono (fun a' w' h => ?_) (wp_exits (fun x a w hx hq => ?_) h1)
            · rw [e2]
              exact ih _ _ _ (by simpa using hs) h
            · rcases hq with ⟨hq, _⟩ | ⟨_, hq⟩
              · exact absurd hq hx
              · exact hq
          · rename_i hw
            rw [if_neg hw] at h1
            rw [e2]
            exact ih _ _ _ (by simpa using hs) h1
theorem anyOrder_but_last {ops : Array Oper} {a : Act} {w : World} (hop : ops = pre.push o) (hok : lastOk pre o = true) (h : anyOrder P pre (lastQ P o Q) pre.size (Array.replicate pre.size false) a w) :
    anyOrder P ops Q ops.size (Array.replicate ops.size false) a w := by
  subst hop
  have e : Array.replicate (pre.push o).size false = (Array.replicate pre.size false).push false := by rw [Array.size_push, Array.replicate_succ]
  rw [e, Array.size_push]
  exact anyOrder_last hok _ _ _ _ (by simp) h
theorem anyOrder_pop {ops : Array Oper} {a : Act} {w : World} (hb : ops.back? = some o) (hok : lastOk ops.pop o = true) (h : anyOrder P ops.pop (lastQ P o Q) ops.pop.size (Array.replicate ops.pop.size false) a w) :
    anyOrder P ops Q ops.size (Array.replicate ops.size false) a w := by
  refine anyOrder_but_last (pre := ops.pop) (o := o) ?_ hok h
  have h1 := Array.back?_eq_some_iff.1 hb
  obtain ⟨xs, rfl⟩ := h1
  simp
theorem lastQ.assign {a : Act} {w : World} {v : Value} {s : Nat} (ho : o.op = .assign (.tmp s)) (hv : a.tmps[s]? = some v) (h : Q .normal (a.put o.dst v) w) : lastQ P o Q .normal a w := by
  refine Or.inl ⟨rfl, step_value (w2 := w) ?_ h⟩
  have e : a.eval (.tmp s) = v := by
    show a.tmps.getD s undef = v
    rw [Array.getD_eq_getD_getElem?, hv]
    rfl
  simp only [execOp, ho, e, Sem.run_pure]
end
end Go.Proofs.Ytamdejidkgnaeaa

namespace Go.Proofs.Ytamdejidkgnaeaa
open Go.RowKit

theorem wpList_append_run {P : Program} {ops : Array Oper} {rest : List Oper} {o : Oper} {a : Act} {Q : Exit → Act → World → Prop} {w : World} (hgd : o.guard = none) (s x : Operand) {t u : TypeId}
    (ho : o.op = .call { callee := .builtin .append, args := #[s, x], argTypes := #[t, u] }) {v1 v2 v : Value} {w' : World} (hs : a.eval s = v1) (hx : a.eval x = v2)
    (hrun : (Builtin.append_ #[t, u] o.type #[v1, v2]).run P w = .ok v w') (h : wpList P ops Q rest (a.put o.dst v) w') : wpList P ops Q (o :: rest) a w := by
  refine wpList_plain hgd fun _ hK => ?_
  unfold Oper.wp execOp
  simp only [ho, resolve, invoke, builtin, Sem.run_bind, Sem.run_pure, Result.andThen_ok, List.map_toArray, List.map_cons, List.map_nil, hs, hx, hrun]
  exact hK _ _ h

end Go.Proofs.Ytamdejidkgnaeaa

namespace Go.Proofs.Ytamdejidkgnaeaa
open Go.RowKit
attribute [local go_sem] Oper.semAt_some

def swap8 (x : BitVec 32) : BitVec 32 := ((x >>> 8) &&& 16711935#32) ||| ((x &&& 16711935#32) <<< 8)
def rev4 (x : BitVec 32) : BitVec 32 := (swap8 x >>> 16) ||| (swap8 x <<< 16)

theorem rev4_byte (x : BitVec 32) (k : Nat) (hk : k < 4) : (rev4 x).extractLsb' (8 * k) 8 = x.extractLsb' (24 - 8 * k) 8 := by
  apply BitVec.eq_of_getLsbD_eq
  intro i hi
  match k, hk with
  | 0, _ | 1, _ | 2, _ | 3, _ =>
    match i, hi with
    | 0, _ | 1, _ | 2, _ | 3, _ | 4, _ | 5, _ | 6, _ | 7, _ => simp [rev4, swap8]
/-- the byte at a shift -/
theorem rev4_at (x : BitVec 32) (k : Nat) (hk : k < 4) : (rev4 x).toNat / 2 ^ (8 * k) % 256 = x.toNat / 2 ^ (24 - 8 * k) % 256 := by
  have h := congrArg BitVec.toNat (rev4_byte x k hk)
  simpa [BitVec.extractLsb'_toNat, Nat.shiftRight_eq_div_pow] using h
theorem rev4_lt (x : BitVec 32) : (rev4 x).toNat < 4294967296 := (rev4 x).isLt

theorem and_u32 (a b : BitVec 32) : bits BinOp.and IntKind.u32 (a.toNat : Int) (b.toNat : Int) = ((a &&& b).toNat : Int) := by
  rw [BitVec.toNat_and]
  exact u32_and_nat _ _ a.isLt b.isLt
theorem or_u32 (a b : BitVec 32) : bits BinOp.or IntKind.u32 (a.toNat : Int) (b.toNat : Int) = ((a ||| b).toNat : Int) := by
  rw [BitVec.toNat_or]
  exact u32_or_nat _ _ a.isLt b.isLt
theorem shr_u32 (a : BitVec 32) (k : Nat) : ((a.toNat : Int) / 2 ^ k) = ((a >>> k).toNat : Int) := by
  rw [BitVec.toNat_ushiftRight, Nat.shiftRight_eq_div_pow, Int.natCast_ediv, Int.natCast_pow]
  rfl
theorem shl_u32 (a : BitVec 32) (k : Nat) : ((a.toNat : Int) * 2 ^ k % 4294967296) = ((a <<< k).toNat : Int) := by
  rw [BitVec.toNat_shiftLeft, Nat.shiftLeft_eq, Int.natCast_emod, Int.natCast_mul, Int.natCast_pow]
  rfl
theorem swap8_val (x : BitVec 32) : bits BinOp.or IntKind.u32 (bits BinOp.and IntKind.u32 ((x.toNat : Int) / 256) 16711935) (bits BinOp.and IntKind.u32 (x.toNat : Int) 16711935 * 256 % 4294967296) = ((swap8 x).toNat : Int) := by
  rw [show (256 : Int) = 2 ^ 8 from rfl, shr_u32, show (16711935 : Int) = ((16711935#32).toNat : Int) from rfl, and_u32, and_u32, shl_u32, or_u32]
  rfl

end Go.Proofs.Ytamdejidkgnaeaa
