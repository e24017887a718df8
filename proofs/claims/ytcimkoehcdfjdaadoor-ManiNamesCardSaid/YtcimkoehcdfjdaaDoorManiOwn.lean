/-
  Shards in memory that the call owns.
-/
import Derived.Test.YtcimkoehcdfjdaaDoorManiKit
import Derived.Test.YtcimkoehcdfjdaaDoorFrameGetKit
namespace Go.Proofs.YtcimkoehcdfjdaaDoor
open Go.RowKit WireM
set_option linter.unusedVariables false

/-- the cells of shards whose bytes are the slices vs -/
def shardCs (ts : List ShardM) (vs : List Value) : List Value := (ts.zip vs).flatMap fun p => [.int .i64 p.1.num, .int .i64 p.1.size, .int .u32 (p.1.sum.toNat : Int), p.2]
theorem shardCs_snoc {ts : List ShardM} {vs : List Value} (h : vs.length = ts.length) (t : ShardM) (x : Value) : shardCs (ts ++ [t]) (vs ++ [x]) = shardCs ts vs ++ [.int .i64 t.num, .int .i64 t.size, .int .u32 (t.sum.toNat : Int), x] := by
  rw [shardCs, List.zip_append h.symm, List.flatMap_append]
  rfl
/-- shards that the call owns -/
structure ShardsOwn (B : Nat) (w : World) (v : Value) (ts : List ShardM) (vs : List Value) : Prop where
  len : vs.length = ts.length
  own : w.ownsRow B 52 4 v ts.length (shardCs ts vs)
  each : ∀ (j : Nat) (x : Value) (t : ShardM), vs[j]? = some x → ts[j]? = some t → w.ownsRow B 3 1 x t.dead.length (t.dead.map i64v)
  dist : DistV vs
section
variable {B : Nat} {w w1 w2 : World} {v v' x : Value} {ts : List ShardM} {vs : List Value} {t : ShardM} {S : Nat → Prop}
theorem ShardsOwn.nil (B : Nat) (w : World) : ShardsOwn B w (.slice none 0 0) [] [] := ⟨rfl, World.ownsRow_nil _ _ _ _, fun j x t h => by simp at h, fun i j v v' b h => by simp at h⟩
theorem ShardsOwn.lt (h : ShardsOwn B w v ts vs) {j k : Nat} (hx : vs[j]? = some x) (hk : x.ownBlock = some k) : B ≤ k ∧ k < w.heap.size := by
  have hj := (List.getElem?_eq_some_iff.1 hx).1
  rw [h.len] at hj
  exact (h.each j x _ hx (List.getElem?_eq_getElem hj)).lt k hk
theorem ShardsOwn.kept (h : ShardsOwn B w v ts vs) (hk : Keep S w w1) (hS : ∀ k, S k → ∀ cs t, w.heap[k]? = some (.cells cs t (0, 0)) → t ≠ 52 ∧ t ≠ 3) : ShardsOwn B w1 v ts vs :=
  ⟨h.len, hk.own h.own fun k hk2 hs => by
    obtain ⟨cur, hc⟩ := own_obj h.own hk2
    exact (hS k hs _ _ hc).1 rfl, fun j x t hx ht => hk.own (h.each j x t hx ht) fun k hk2 hs => by
    obtain ⟨cur, hc⟩ := own_obj (h.each j x t hx ht) hk2
    exact (hS k hs _ _ hc).2 rfl, h.dist⟩
theorem ShardsOwn.grow (h : ShardsOwn B w v ts vs) (hg : Grow w w1) : ShardsOwn B w1 v ts vs := h.kept (S := fun _ => False) (Keep.grow hg) fun _ h => h.elim
theorem ShardsOwn.snoc (h : ShardsOwn B w v ts vs) {Bx : Nat} (hx : w.ownsRow Bx 3 1 x t.dead.length (t.dead.map i64v)) (hB : B ≤ Bx) (hnew : ∀ (j : Nat) (y : Value) (k : Nat), vs[j]? = some y → y.ownBlock = some k → k < Bx)
    (hown : w2.ownsRow B 52 4 v' (ts.length + 1) (shardCs ts vs ++ [.int .i64 t.num, .int .i64 t.size, .int .u32 (t.sum.toNat : Int), x])) (hg : w.grownBy w2 v.ownBlock) : ShardsOwn B w2 v' (ts ++ [t]) (vs ++ [x]) := by
  have hk := Keep.grown hg
  have hv : ∀ k, v.ownBlock = some k → ∀ cs t, w.heap[k]? = some (.cells cs t (0, 0)) → t = 52 := fun k hk cs t ht => by
    obtain ⟨cur, hc⟩ := own_obj h.own hk
    rw [hc] at ht
    cases ht
    rfl
  have keep : ∀ (y : Value) (N BB : Nat) (ys : List Value), w.ownsRow BB 3 1 y N ys → w2.ownsRow BB 3 1 y N ys := fun y N BB ys hy => hk.own hy fun k hk2 hs => by
    obtain ⟨cur, hc⟩ := own_obj hy hk2
    exact absurd (hv k hs _ _ hc) (by decide)
  refine ⟨by simp [h.len], by rw [shardCs_snoc h.len, List.length_append]; exact hown, fun j y u hy hu => ?_, fun i j y y' b hi hj hne hb hb' => ?_⟩
  · by_cases hj : j < ts.length
    · rw [List.getElem?_append_left (by rw [h.len]; exact hj)] at hy
      rw [List.getElem?_append_left hj] at hu
      exact keep y _ _ _ (h.each j y u hy hu)
    · have hl := (List.getElem?_eq_some_iff.1 hu).1
      simp at hl
      obtain rfl : j = ts.length := by omega
      rw [List.getElem?_append_right (Nat.le_refl _)] at hu
      rw [List.getElem?_append_right (by rw [h.len]; exact Nat.le_refl _), h.len] at hy
      simp at hu hy
      subst hu hy
      exact own_base (keep _ _ _ _ hx) hB
  · have at_ : ∀ (i : Nat) (y : Value), (vs ++ [x])[i]? = some y → (i < vs.length ∧ vs[i]? = some y) ∨ (i = vs.length ∧ y = x) := fun i y hi => by
      by_cases hl : i < vs.length
      · rw [List.getElem?_append_left hl] at hi
        exact Or.inl ⟨hl, hi⟩
      · have hl2 := (List.getElem?_eq_some_iff.1 hi).1
        simp at hl2
        obtain rfl : i = vs.length := by omega
        rw [List.getElem?_append_right (Nat.le_refl _)] at hi
        exact Or.inr ⟨rfl, by simpa using hi.symm⟩
    rcases at_ i y hi with ⟨h1, h2⟩ | ⟨h1, h2⟩
    · rcases at_ j y' hj with ⟨h3, h4⟩ | ⟨h3, h4⟩
      · exact h.dist i j y y' b h2 h4 hne hb hb'
      · subst h4
        have h5 := hnew i y b h2 hb
        have h6 := (hx.lt b hb').1
        omega
    · rcases at_ j y' hj with ⟨h3, h4⟩ | ⟨h3, h4⟩
      · subst h2
        have h5 := hnew j y' b h4 hb'
        have h6 := (hx.lt b hb).1
        omega
      · omega
/-- they read as shards -/
theorem ShardsOwn.reads (h : ShardsOwn B w v ts vs) (hb : ∀ t ∈ ts, t.dead.length ≤ 17592186044416 ∧ Wide64 t.num ∧ Wide64 t.size ∧ ∀ x ∈ t.dead, Wide64 x) : ∃ A c, v = .slice A ts.length c ∧ ts.length ≤ c ∧ c ≤ maxLen ∧ ShardsAt w w.heap.size A ts.length ts := by
  obtain ⟨A, c, rfl, h1, h2, h3⟩ := own_reads h.own
  refine ⟨A, c, rfl, h1, h2, rfl, fun hn => ?_⟩
  obtain ⟨b, off, e, hbl, hcl⟩ := h3.2 hn
  refine ⟨b, off, e, hbl, fun j t hj => ?_⟩
  have hjl := (List.getElem?_eq_some_iff.1 hj).1
  obtain ⟨x, hx⟩ : ∃ x, vs[j]? = some x := ⟨_, List.getElem?_eq_getElem (by rw [h.len]; exact hjl)⟩
  obtain ⟨A1, c1, e1, h4, h5, h6⟩ := own_reads (h.each j x t hx hj)
  have hcs : ∀ i u, [Value.int .i64 t.num, .int .i64 t.size, .int .u32 (t.sum.toNat : Int), x][i]? = some u → (shardCs ts vs)[j * 4 + i]? = some u := fun i u hu => by
    have hz : (ts.zip vs)[j]? = some (t, x) := by rw [List.getElem?_zip_eq_some]; exact ⟨hj, hx⟩
    have : ∀ (l : List (ShardM × Value)) (j : Nat) (p : ShardM × Value), l[j]? = some p → ∀ i u, [Value.int .i64 p.1.num, .int .i64 p.1.size, .int .u32 (p.1.sum.toNat : Int), p.2][i]? = some u → (l.flatMap fun p => [Value.int .i64 p.1.num, .int .i64 p.1.size, .int .u32 (p.1.sum.toNat : Int), p.2])[j * 4 + i]? = some u := by
      intro l
      induction l with
      | nil => intro j p hp; simp at hp
      | cons q l ih =>
        intro j p hp i u hu
        cases j with
        | zero =>
          obtain rfl : q = p := by simpa using hp
          match i, hu with
          | 0, hu => simpa using hu
          | 1, hu => simpa using hu
          | 2, hu => simpa using hu
          | 3, hu => simpa using hu
        | succ j =>
          have := ih j p (by simpa using hp) i u hu
          rw [List.flatMap_cons, show (j + 1) * 4 + i = (j * 4 + i) + 4 by omega]
          simpa using this
    exact this _ j (t, x) hz i u hu
  refine ⟨[.int .i64 t.num, .int .i64 t.size, .int .u32 (t.sum.toNat : Int), x], rfl, ⟨A1, t.dead.length, c1, by rw [e1], h4, h5, (hb t (List.mem_of_getElem? hj)).1, h6, (hb t (List.mem_of_getElem? hj)).2⟩, fun i u hu => ?_⟩
  · have := hcl (j * 4 + i) u (hcs i u hu)
    rw [Nat.add_assoc]
    exact this
end
/-- what the rounds keep -/
structure MGetJ (w : World) (D lp : Nat) (rec : LoopState → Option Code → Loop) (gen : Int) (ts : List ShardM) (W : World) : Prop where
  loop : W.heap[lp]? = some (.loop (rec .ready none))
  defers : W.heap[D]? = some (.deferred (some []))
  out : ∃ v vs, Blk W w.heap.size 34 #[.int .i64 gen, v] ∧ ShardsOwn w.heap.size W v ts vs
  err : Blk W (w.heap.size + 1) 27 #[.int .i64 0]
  below : Below w.heap.size w W
theorem MGetJ.kept {w W W1 : World} {D lp : Nat} {rec : LoopState → Option Code → Loop} {gen : Int} {ts : List ShardM} {S : Nat → Prop} (h : MGetJ w D lp rec gen ts W) (hk : Keep S W W1)
    (hS : ∀ k, S k → w.heap.size ≤ k ∧ ∃ cs t, W.heap[k]? = some (.cells cs t (0, 0)) ∧ t ≠ 52 ∧ t ≠ 3 ∧ t ≠ 34 ∧ t ≠ 27) : MGetJ w D lp rec gen ts W1 := by
  obtain ⟨v, vs, h1, h2⟩ := h.out
  have no : ∀ (k : Nat) (o : Obj), W.heap[k]? = some o → (∀ cs t, o = .cells cs t (0, 0) → t = 52 ∨ t = 3 ∨ t = 34 ∨ t = 27) → ¬ S k := fun k o hk2 ho hs => by
    obtain ⟨_, cs, t, q, q1, q2, q3, q4⟩ := hS k hs
    rw [hk2] at q
    injection q with q
    rcases ho cs t q with e | e | e | e
    · exact q1 e
    · exact q2 e
    · exact q3 e
    · exact q4 e
  refine ⟨hk.obj h.loop (no _ _ h.loop fun _ _ e => by cases e), hk.obj h.defers (no _ _ h.defers fun _ _ e => by cases e), ⟨v, vs, hk.blk h1 (no _ _ h1 fun _ _ e => by injection e with _ e; exact Or.inr (Or.inr (Or.inl e.symm))), h2.kept hk fun k hs cs t ht => ?_⟩, hk.blk h.err (no _ _ h.err fun _ _ e => by injection e with _ e; exact Or.inr (Or.inr (Or.inr e.symm))), Below.trans h.below (hk.below (fun k hs => (hS k hs).1) h.below.size)⟩
  obtain ⟨_, cs', t', q, q1, q2, _⟩ := hS k hs
  rw [ht] at q
  injection q with q
  injection q with _ q
  subst q
  exact ⟨q1, q2⟩
end Go.Proofs.YtcimkoehcdfjdaaDoor
