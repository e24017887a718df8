/-
  Words for the walk of frame's Get: parts that the call owns; a chain of readers that turn; what the rounds keep. No program is in sight, but for the numbers of types.
-/
import Derived.Test.YtcimkoehcdfjdaaGreatDoorFrameAll
import Derived.Test.YtcimkoehcdfjdaaGreatDoorBaseE
namespace Go.Proofs.YtcimkoehcdfjdaaGreatDoor
open Go.RowKit WireM

/-- blocks of type T from B0 on may turn, no others -/
structure KeepTy (B0 : Nat) (T : TypeId) (w w' : World) : Prop where
  os : w'.os = w.os
  tape : w'.tape = w.tape
  output : w'.output = w.output
  size : w.heap.size ≤ w'.heap.size
  block : ∀ k o, w.heap[k]? = some o → (k < B0 ∨ ∀ cs, o ≠ .cells cs T (0, 0)) → w'.heap[k]? = some o
section
variable {B0 : Nat} {T : TypeId} {w w1 w2 : World}
theorem KeepTy.refl (B0 : Nat) (T : TypeId) (w : World) : KeepTy B0 T w w := ⟨rfl, rfl, rfl, Nat.le_refl _, fun _ _ h _ => h⟩
theorem keepTy_trans : ∀ x y z, KeepTy B0 T x y → KeepTy B0 T y z → KeepTy B0 T x z := fun _ _ _ h k => ⟨k.os.trans h.os, k.tape.trans h.tape, k.output.trans h.output, Nat.le_trans h.size k.size, fun j o hj hp => k.block j o (h.block j o hj hp) hp⟩
theorem keepTy_grow : ∀ x y, Grow x y → KeepTy B0 T x y := fun _ _ h => ⟨h.os, h.tape, h.output, h.size, fun j _ hj _ => (h.block j (Array.getElem?_eq_some_iff.1 hj).1).trans hj⟩
theorem KeepTy.own1 {g : Nat} {cs : Array Value} (hk : Keep (Own1 g) w w1) (hb : Blk w g T cs) (hg : B0 ≤ g) : KeepTy B0 T w w1 := ⟨hk.os, hk.tape, hk.output, hk.size, fun j o hj hp => hk.obj hj fun e => by
  rw [show j = g from e] at hj hp
  unfold Blk at hb
  rw [hb] at hj
  cases hj
  rcases hp with h | h
  · omega
  · exact h cs rfl⟩
theorem KeepTy.below (h : KeepTy B0 T w w1) (hB : B0 ≤ w.heap.size) : Below B0 w w1 := ⟨h.os, h.tape, h.output, h.size, fun k hk => by
  have hl : k < w.heap.size := by omega
  rw [h.block k _ (Array.getElem?_eq_getElem hl) (Or.inl hk), Array.getElem?_eq_getElem hl]⟩
theorem KeepTy.low (h : KeepTy B0 T w w1) {m t : Nat} {cs : Array Value} (hb : Blk w m t cs) (hm : m < B0) : Blk w1 m t cs := h.block m _ hb (Or.inl hm)
theorem KeepTy.blk (h : KeepTy B0 T w w1) {m t : Nat} {cs : Array Value} (hb : Blk w m t cs) (ht : t ≠ T) : Blk w1 m t cs := h.block m _ hb (Or.inr fun cs e => by injection e with _ e; exact ht e)
end
theorem Grow.blkOf {w w1 : World} (hg : Grow w w1) {k t : Nat} {cs : Array Value} (h : Blk w k t cs) : Blk w1 k t cs := h.below hg h.lt
/-- a row of one cell in a block that was just made, of another type -/
def FactOn.ty1 {B0 : Nat} {T : TypeId} (t : Nat) (ht : t ≠ T) (x : Value) : FactOn (KeepTy B0 T) :=
  ⟨fun u w => ∃ m, u = .slice (some ⟨m, 0, none⟩) 1 1 ∧ B0 ≤ m ∧ Blk w m t #[x], fun _ _ _ hk ⟨m, h1, h2, h3⟩ => ⟨m, h1, h2, hk.blk h3 ht⟩⟩
/-- a reader that was just made -/
def RdNew (B0 : Nat) (l : List UInt8) (x : Value) (w : World) : Prop := ∃ g A n c, x = .pointer (some ⟨g, 0, none⟩) ∧ B0 ≤ g ∧ Rd w g A n c l false
theorem RdNew.grow {B0 : Nat} {l : List UInt8} {x : Value} {w w1 : World} (h : RdNew B0 l x w) (hg : Grow w w1) : RdNew B0 l x w1 := by
  obtain ⟨g, A, n, c, h1, h2, h3⟩ := h
  exact ⟨g, A, n, c, h1, h2, h3.grow hg⟩
/-- Read, Fixed, Read, Fixed -/
def getW (B0 : Nat) (l1 l2 : List UInt8) (V1 V2 : Value) : List Value → World → Prop
  | [], _ => True
  | [x], w => RdNew B0 l1 x w
  | [_, y], _ => y = V1
  | [_, y, z], w => y = V1 ∧ RdNew B0 l2 z w
  | [_, y, _, u], _ => y = V1 ∧ u = V2
  | _, _ => False
theorem getW.grow {B0 : Nat} {l1 l2 : List UInt8} {V1 V2 : Value} : ∀ (vals : List Value) (w w1 : World), Grow w w1 → getW B0 l1 l2 V1 V2 vals w → getW B0 l1 l2 V1 V2 vals w1
  | [], _, _, _, h => h
  | [_], _, _, hg, h => RdNew.grow h hg
  | [_, _], _, _, _, h => h
  | [_, _, _], _, _, hg, h => ⟨h.1, h.2.grow hg⟩
  | [_, _, _, _], _, _, _, h => h
  | _ :: _ :: _ :: _ :: _ :: _, _, _, _, h => h.elim
theorem getW.v1 {B0 : Nat} {l1 l2 : List UInt8} {V1 V2 u : Value} : ∀ {vals : List Value} {w : World}, getW B0 l1 l2 V1 V2 vals w → vals[1]? = some u → u = V1
  | [], _, _, hu => by simp at hu
  | [_], _, _, hu => by simp at hu
  | [_, y], _, h, hu => by
    obtain rfl : y = u := by simpa using hu
    exact h
  | [_, y, _], _, h, hu => by
    obtain rfl : y = u := by simpa using hu
    exact h.1
  | [_, y, _, _], _, h, hu => by
    obtain rfl : y = u := by simpa using hu
    exact h.1
  | _ :: _ :: _ :: _ :: _ :: _, _, h, _ => h.elim
theorem getW.v2 {B0 : Nat} {l1 l2 : List UInt8} {V1 V2 u : Value} : ∀ {vals : List Value} {w : World}, getW B0 l1 l2 V1 V2 vals w → vals[3]? = some u → u = V2
  | [], _, _, hu => by simp at hu
  | [_], _, _, hu => by simp at hu
  | [_, _], _, _, hu => by simp at hu
  | [_, _, _], _, _, hu => by simp at hu
  | [_, _, _, y], _, h, hu => by
    obtain rfl : y = u := by simpa using hu
    exact h.2
  | _ :: _ :: _ :: _ :: _ :: _, _, h, _ => h.elim
theorem len3 {α : Type} {l : List α} (h : l.length = 3) : ∃ a b c, l = [a, b, c] := by
  match l, h with
  | [a, b, c], _ => exact ⟨a, b, c, rfl⟩
theorem len2 {α : Type} {l : List α} (h : l.length = 2) : ∃ a b, l = [a, b] := by
  match l, h with
  | [a, b], _ => exact ⟨a, b, rfl⟩

theorem Keep.rdNew {B0 : Nat} {l : List UInt8} {x : Value} {w w1 : World} (h : RdNew B0 l x w) (hk : Keep (fun _ => False) w w1) : RdNew B0 l x w1 := h.grow hk.toGrow
def FactOn.rd (B0 : Nat) (l : List UInt8) : FactOn (Keep (fun _ => False)) := ⟨fun u w => RdNew B0 l u w, fun _ _ _ hk h => Keep.rdNew h hk⟩
def FactOn.rdAgg (B0 : Nat) (l : List UInt8) (s : Value) : FactOn (Keep (fun _ => False)) := ⟨fun u w => ∃ p, u = .agg #[p, s] ∧ RdNew B0 l p w, fun _ _ _ hk ⟨p, h, h2⟩ => ⟨p, h, Keep.rdNew h2 hk⟩⟩
def FactOn.frNew (B0 : Nat) (l : List UInt8) (s : Value) : FactOn (Keep (fun _ => False)) :=
  ⟨fun u w => ∃ R g, u = .pointer (some ⟨R, 0, none⟩) ∧ B0 ≤ R ∧ Blk w R 154 #[.pointer (some ⟨g, 0, none⟩), s] ∧ ∃ A' n' c', Rd w g A' n' c' l false,
    fun _ _ _ hk ⟨R, g, h1, h2, h3, A', n', c', h4⟩ => ⟨R, g, h1, h2, Grow.blkOf hk.toGrow h3, A', n', c', h4.grow hk.toGrow⟩⟩
/-- the cells of parts whose bytes are the slices vs -/
def partCs (ts : List PartM) (vs : List Value) : List Value := (ts.zip vs).flatMap fun p => [.int .u8 (p.1.tag.toNat : Int), p.2]
theorem partCs_snoc {ts : List PartM} {vs : List Value} (h : vs.length = ts.length) (t : PartM) (x : Value) : partCs (ts ++ [t]) (vs ++ [x]) = partCs ts vs ++ [.int .u8 (t.tag.toNat : Int), x] := by
  rw [partCs, List.zip_append h.symm, List.flatMap_append]
  rfl
/-- parts that the call owns -/
structure PartsOwn (B : Nat) (w : World) (v : Value) (ts : List PartM) (vs : List Value) : Prop where
  len : vs.length = ts.length
  own : w.ownsRow B 40 2 v ts.length (partCs ts vs)
  each : ∀ (j : Nat) (x : Value) (t : PartM), vs[j]? = some x → ts[j]? = some t → w.ownsRow B 5 1 x t.b.length (t.b.map b8)
  dist : DistV vs
section
variable {B : Nat} {w w1 w2 : World} {v v' x : Value} {ts : List PartM} {vs : List Value} {t : PartM} {S : Nat → Prop}
theorem PartsOwn.nil (B : Nat) (w : World) : PartsOwn B w (.slice none 0 0) [] [] := ⟨rfl, World.ownsRow_nil _ _ _ _, fun j x t h => by simp at h, fun i j v v' b h => by simp at h⟩
theorem PartsOwn.lt (h : PartsOwn B w v ts vs) {j k : Nat} (hx : vs[j]? = some x) (hk : x.ownBlock = some k) : B ≤ k ∧ k < w.heap.size := by
  have hj := (List.getElem?_eq_some_iff.1 hx).1
  rw [h.len] at hj
  exact (h.each j x _ hx (List.getElem?_eq_getElem hj)).lt k hk
theorem PartsOwn.kept (h : PartsOwn B w v ts vs) (hk : Keep S w w1) (hS : ∀ k, S k → ∀ cs t, w.heap[k]? = some (.cells cs t (0, 0)) → t ≠ 40 ∧ t ≠ 5) : PartsOwn B w1 v ts vs :=
  ⟨h.len, hk.own h.own fun k hk2 hs => by
    obtain ⟨cur, hc⟩ := own_obj h.own hk2
    exact (hS k hs _ _ hc).1 rfl, fun j x t hx ht => hk.own (h.each j x t hx ht) fun k hk2 hs => by
    obtain ⟨cur, hc⟩ := own_obj (h.each j x t hx ht) hk2
    exact (hS k hs _ _ hc).2 rfl, h.dist⟩
theorem PartsOwn.grow (h : PartsOwn B w v ts vs) (hg : Grow w w1) : PartsOwn B w1 v ts vs := h.kept (S := fun _ => False) (Keep.grow hg) fun _ h => h.elim
theorem PartsOwn.snoc (h : PartsOwn B w v ts vs) {Bx : Nat} (hx : w.ownsRow Bx 5 1 x t.b.length (t.b.map b8)) (hB : B ≤ Bx) (hnew : ∀ (j : Nat) (y : Value) (k : Nat), vs[j]? = some y → y.ownBlock = some k → k < Bx)
    (hown : w2.ownsRow B 40 2 v' (ts.length + 1) (partCs ts vs ++ [.int .u8 (t.tag.toNat : Int), x])) (hg : w.grownBy w2 v.ownBlock) : PartsOwn B w2 v' (ts ++ [t]) (vs ++ [x]) := by
  have hk := Keep.grown hg
  have hv : ∀ k, v.ownBlock = some k → ∀ cs t, w.heap[k]? = some (.cells cs t (0, 0)) → t = 40 := fun k hk cs t ht => by
    obtain ⟨cur, hc⟩ := own_obj h.own hk
    rw [hc] at ht
    cases ht
    rfl
  have keep : ∀ (y : Value) (N BB : Nat) (ys : List Value), w.ownsRow BB 5 1 y N ys → w2.ownsRow BB 5 1 y N ys := fun y N BB ys hy => hk.own hy fun k hk2 hs => by
    obtain ⟨cur, hc⟩ := own_obj hy hk2
    exact absurd (hv k hs _ _ hc) (by decide)
  refine ⟨by simp [h.len], by rw [partCs_snoc h.len, List.length_append]; exact hown, fun j y u hy hu => ?_, fun i j y y' b hi hj hne hb hb' => ?_⟩
  · by_cases hj : j < ts.length
    · rw [List.getElem?_append_left (by rw [h.len]; exact hj)] at hy
      rw [List.getElem?_append_left hj] at hu
      exact keep y _ _ _ (h.each j y u hy hu)
    · have hl := (List.getElem?_eq_some_iff.1 hu).1
      simp at hl
      obtain rfl : j = ts.length := by omega
      rw [List.getElem?_append_right (Nat.le_refl _)] at hu
      rw [List.getElem?_append_right (by rw [h.len]; exact Nat.le_refl _), h.len] at hy
      simp at hu hy
      subst hu hy
      exact own_base (keep _ _ _ _ hx) hB
  · have at_ : ∀ (i : Nat) (y : Value), (vs ++ [x])[i]? = some y → (i < vs.length ∧ vs[i]? = some y) ∨ (i = vs.length ∧ y = x) := fun i y hi => by
      by_cases hl : i < vs.length
      · rw [List.getElem?_append_left hl] at hi
        exact Or.inl ⟨hl, hi⟩
      · have hl2 := (List.getElem?_eq_some_iff.1 hi).1
        simp at hl2
        obtain rfl : i = vs.length := by omega
        rw [List.getElem?_append_right (Nat.le_refl _)] at hi
        exact Or.inr ⟨rfl, by simpa using hi.symm⟩
    rcases at_ i y hi with ⟨h1, h2⟩ | ⟨h1, h2⟩
    · rcases at_ j y' hj with ⟨h3, h4⟩ | ⟨h3, h4⟩
      · exact h.dist i j y y' b h2 h4 hne hb hb'
      · subst h4
        have h5 := hnew i y b h2 hb
        have h6 := (hx.lt b hb').1
        omega
    · rcases at_ j y' hj with ⟨h3, h4⟩ | ⟨h3, h4⟩
      · subst h2
        have h5 := hnew j y' b h4 hb'
        have h6 := (hx.lt b hb).1
        omega
      · omega
/-- they read as parts -/
theorem PartsOwn.reads (h : PartsOwn B w v ts vs) (hb : ∀ t ∈ ts, t.b.length ≤ 140737488351232) : ∃ A c, v = .slice A ts.length c ∧ ts.length ≤ c ∧ c ≤ maxLen ∧ PartsAt w w.heap.size A ts.length ts := by
  obtain ⟨A, c, rfl, h1, h2, h3⟩ := own_reads h.own
  refine ⟨A, c, rfl, h1, h2, rfl, fun hn => ?_⟩
  obtain ⟨b, off, e, hbl, hcl⟩ := h3.2 hn
  refine ⟨b, off, e, hbl, fun j t hj => ?_⟩
  have hjl := (List.getElem?_eq_some_iff.1 hj).1
  obtain ⟨x, hx⟩ : ∃ x, vs[j]? = some x := ⟨_, List.getElem?_eq_getElem (by rw [h.len]; exact hjl)⟩
  obtain ⟨A1, c1, e1, h4, h5, h6⟩ := own_reads (h.each j x t hx hj)
  have hcs : ∀ i u, [Value.int .u8 (t.tag.toNat : Int), x][i]? = some u → (partCs ts vs)[j * 2 + i]? = some u := fun i u hu => by
    have hz : (ts.zip vs)[j]? = some (t, x) := by rw [List.getElem?_zip_eq_some]; exact ⟨hj, hx⟩
    have : ∀ (l : List (PartM × Value)) (j : Nat) (p : PartM × Value), l[j]? = some p → ∀ i u, [Value.int .u8 (p.1.tag.toNat : Int), p.2][i]? = some u → (l.flatMap fun p => [Value.int .u8 (p.1.tag.toNat : Int), p.2])[j * 2 + i]? = some u := by
      intro l
      induction l with
      | nil => intro j p hp; simp at hp
      | cons q l ih =>
        intro j p hp i u hu
        cases j with
        | zero =>
          obtain rfl : q = p := by simpa using hp
          match i, hu with
          | 0, hu => simpa using hu
          | 1, hu => simpa using hu
        | succ j =>
          have := ih j p (by simpa using hp) i u hu
          rw [List.flatMap_cons, show (j + 1) * 2 + i = (j * 2 + i) + 2 by omega]
          simpa using this
    exact this _ j (t, x) hz i u hu
  refine ⟨[.int .u8 (t.tag.toNat : Int), x], rfl, ⟨A1, t.b.length, c1, by rw [e1], h4, h5, hb t (List.mem_of_getElem? hj), h6⟩, fun i u hu => ?_⟩
  · have := hcl (j * 2 + i) u (hcs i u hu)
    rw [Nat.add_assoc]
    exact this
end
/-- a row of one element of s cells that was just made -/
theorem ReadsAt.madeS (w : World) (t s : Nat) (cs : List Value) (h : cs.length = 1 * s) : ReadsAt (w.alloc (.cells cs.toArray t)) (w.heap.size + 1) s (some ⟨w.heap.size, 0, none⟩) 1 cs :=
  ⟨h, fun _ => ⟨w.heap.size, 0, rfl, by omega, fun j u hu => by
    rw [(Blk.new w t cs.toArray).cell, Nat.zero_add]
    simpa using hu⟩⟩
/-- what the rounds keep -/
structure GetJ (w : World) (D lp : Nat) (rec : LoopState → Option Code → Loop) (ts : List PartM) (W : World) : Prop where
  loop : W.heap[lp]? = some (.loop (rec .ready none))
  defers : W.heap[D]? = some (.deferred (some []))
  out : ∃ v vs, Blk W w.heap.size 41 #[v] ∧ PartsOwn w.heap.size W v ts vs
  err : Blk W (w.heap.size + 1) 29 #[.int .i64 0]
  below : Below w.heap.size w W
/-- a part that is none -/
structure GetN (w : World) (D lp : Nat) (rec : LoopState → Option Code → Loop) (W : World) : Prop where
  loop : W.heap[lp]? = some (.loop (rec .done (some (.exit 0))))
  defers : W.heap[D]? = some (.deferred (some []))
  out : ∃ v, Blk W w.heap.size 41 #[v]
  err : Blk W (w.heap.size + 1) 29 #[.int .i64 9]
  below : Below w.heap.size w W
theorem GetJ.kept {w W W1 : World} {D lp : Nat} {rec : LoopState → Option Code → Loop} {ts : List PartM} {S : Nat → Prop} (h : GetJ w D lp rec ts W) (hk : Keep S W W1)
    (hS : ∀ k, S k → w.heap.size ≤ k ∧ ∃ cs t, W.heap[k]? = some (.cells cs t (0, 0)) ∧ t ≠ 40 ∧ t ≠ 5 ∧ t ≠ 41 ∧ t ≠ 29) : GetJ w D lp rec ts W1 := by
  obtain ⟨v, vs, h1, h2⟩ := h.out
  have no : ∀ (k : Nat) (o : Obj), W.heap[k]? = some o → (∀ cs t, o = .cells cs t (0, 0) → t = 40 ∨ t = 5 ∨ t = 41 ∨ t = 29) → ¬ S k := fun k o hk2 ho hs => by
    obtain ⟨_, cs, t, q, q1, q2, q3, q4⟩ := hS k hs
    rw [hk2] at q
    injection q with q
    rcases ho cs t q with e | e | e | e
    · exact q1 e
    · exact q2 e
    · exact q3 e
    · exact q4 e
  refine ⟨hk.obj h.loop (no _ _ h.loop fun _ _ e => by cases e), hk.obj h.defers (no _ _ h.defers fun _ _ e => by cases e), ⟨v, vs, hk.blk h1 (no _ _ h1 fun _ _ e => by injection e with _ e; exact Or.inr (Or.inr (Or.inl e.symm))), h2.kept hk fun k hs cs t ht => ?_⟩, hk.blk h.err (no _ _ h.err fun _ _ e => by injection e with _ e; exact Or.inr (Or.inr (Or.inr e.symm))), Below.trans h.below (hk.below (fun k hs => (hS k hs).1) h.below.size)⟩
  obtain ⟨_, cs', t', q, q1, q2, _⟩ := hS k hs
  rw [ht] at q
  injection q with q
  injection q with _ q
  subst q
  exact ⟨q1, q2⟩
/-- out = nil; e = e -/
def endW (o e : Nat) (v : Value) (w0 : World) : List Value → World → Prop
  | [], w => Blk w o 41 #[v] ∧ Blk w e 29 #[.int .i64 9] ∧ Keep (fun j => j = o ∨ j = e) w0 w
  | [_], w => Blk w o 41 #[.slice none 0 0] ∧ Blk w e 29 #[.int .i64 9] ∧ Keep (fun j => j = o ∨ j = e) w0 w
  | [_, _], w => Blk w o 41 #[.slice none 0 0] ∧ Blk w e 29 #[.int .i64 9] ∧ Keep (fun j => j = o ∨ j = e) w0 w
  | _, _ => False
section
variable {o e : Nat} {v : Value} {w0 w : World}
theorem endW.grow : ∀ (vals : List Value) (w w2 : World), Grow w w2 → endW o e v w0 vals w → endW o e v w0 vals w2
  | [], _, _, hg, h => ⟨Grow.blkOf hg h.1, Grow.blkOf hg h.2.1, h.2.2.trans' (Keep.grow hg)⟩
  | [_], _, _, hg, h => ⟨Grow.blkOf hg h.1, Grow.blkOf hg h.2.1, h.2.2.trans' (Keep.grow hg)⟩
  | [_, _], _, _, hg, h => ⟨Grow.blkOf hg h.1, Grow.blkOf hg h.2.1, h.2.2.trans' (Keep.grow hg)⟩
  | _ :: _ :: _ :: _, _, _, _, h => h.elim
theorem endW.err : ∀ {vals : List Value}, endW o e v w0 vals w → Blk w e 29 #[.int .i64 9]
  | [], h => h.2.1
  | [_], h => h.2.1
  | [_, _], h => h.2.1
  | _ :: _ :: _ :: _, h => h.elim
theorem endW.nil (h : endW o e v w0 [] w) (ho : e ≠ o) (x : Value) : Keep (fun j => j = o ∨ j = e) w (w.setCell ⟨o, 0, none⟩ (.slice none 0 0)) ∧ endW o e v w0 [x] (w.setCell ⟨o, 0, none⟩ (.slice none 0 0)) := by
  have hk : Keep (fun j => j = o ∨ j = e) w (w.setCell ⟨o, 0, none⟩ (.slice none 0 0)) := (Keep.setCell w ⟨o, 0, none⟩ (.slice none 0 0)).mono fun j hj => Or.inl (Or.inl hj)
  exact ⟨hk, h.1.set 0 (.slice none 0 0), h.2.1.far ho _, h.2.2.trans' hk⟩
theorem endW.put {x : Value} (h : endW o e v w0 [x] w) (ho : o ≠ e) (y : Value) : Keep (fun j => j = o ∨ j = e) w (w.setCell ⟨e, 0, none⟩ (.int .i64 9)) ∧ endW o e v w0 [x, y] (w.setCell ⟨e, 0, none⟩ (.int .i64 9)) := by
  have hk : Keep (fun j => j = o ∨ j = e) w (w.setCell ⟨e, 0, none⟩ (.int .i64 9)) := (Keep.setCell w ⟨e, 0, none⟩ (.int .i64 9)).mono fun j hj => Or.inl (Or.inr hj)
  exact ⟨hk, h.1.far ho _, h.2.1.set 0 (.int .i64 9), h.2.2.trans' hk⟩
end
end Go.Proofs.YtcimkoehcdfjdaaGreatDoor
