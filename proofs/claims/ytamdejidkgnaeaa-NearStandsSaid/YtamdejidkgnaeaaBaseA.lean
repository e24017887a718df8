/-
  Words for blocks of memory that are known whole. No program is in sight.
  Words for what slices in memory read as: a row of cells, a row of bytes, rows of bytes; nil is let in. No program is in sight.
  append onto a row that the call itself made, whatever is appended (nil, empty or not): a law for the walk, for the fenced walk and for a region that draws its order.
  The walks of mudlarkkit's mark and markByte.
  The walks of mudlarkkit's SameBytes and SameInts.
  Quiet calls behind quiet regions (after the kit's extra-small page). No program is in sight.
  The walks of mudlarkkit's LentBytes, KeptBytes, SameBytes: bytes that are lent with marks behind them; whether they are as they were; whether two rows are the same.
-/
import Derived.RangeFuncBox
import Derived.Laws.Rows
import Derived.Deep.Draws
import Derived.Laws.OwnMore
import Derived.Maps.AppendAt
import Derived.Deep.AppendLies
import Derived.RegionTactic
import Derived.OwnWalk
import Derived.OwnWalkIn
import Derived.Test.YtamdejidkgnaeaaProg
import Derived.Outline
import Derived.WalkKit
import Derived.Lib.Hide
import Derived.Deep.QuietTactic
import Derived.BigQuiet
import Derived.IntWalk
namespace Go.Proofs.Ytamdejidkgnaeaa
open Go.RowKit

theorem ret_int {k : IntKind} {a b : Int} (h : a = b) : Ending.returned (.int k a) = .returned (.int k b) := by rw [h]
theorem ret_bool {a b : Bool} (h : a = b) : Ending.returned (.bool a) = .returned (.bool b) := by rw [h]

/-- block g is the cells cs of type t, none of them frozen -/
def Blk (w : World) (g : Nat) (t : TypeId) (cs : Array Value) : Prop := w.heap[g]? = some (.cells cs t (0, 0))

section
variable {w w' : World} {g t : Nat} {cs : Array Value}
theorem Blk.lt (h : Blk w g t cs) : g < w.heap.size := (Array.getElem?_eq_some_iff.1 h).1
theorem Blk.cell (h : Blk w g t cs) (i : Nat) : w.cell? ⟨g, i, none⟩ = cs[i]? := by
  simp only [World.cell?, show w.heap[g]? = _ from h]; rfl
theorem Blk.frozen (h : Blk w g t cs) (i : Nat) : w.frozen? ⟨g, i, none⟩ = false := by
  simp [World.frozen?, show w.heap[g]? = _ from h]
theorem Blk.new (w : World) (t : Nat) (cs : Array Value) : Blk (w.alloc (.cells cs t)) w.heap.size t cs := World.alloc_heap_new w _
theorem Blk.kept (h : Blk w g t cs) (hk : w'.heap[g]? = w.heap[g]?) : Blk w' g t cs := hk.trans h
theorem Blk.alloc (h : Blk w g t cs) (o : Obj) : Blk (w.alloc o) g t cs := (Below.heap_alloc w o g h.lt).trans h
theorem Blk.set (h : Blk w g t cs) (i : Nat) (u : Value) : Blk (w.setCell ⟨g, i, none⟩ u) g t (cs.setIfInBounds i u) := by
  unfold Blk at h ⊢
  simp [World.setCell, Array.getElem?_modify, h]
theorem Blk.far (h : Blk w g t cs) {p : Addr} (hp : g ≠ p.block) (u : Value) : Blk (w.setCell p u) g t cs := (Below.heap_setCell w p u g hp).trans h
theorem Blk.below {B : Nat} (h : Blk w g t cs) (hb : Below B w w') (hg : g < B) : Blk w' g t cs := (hb.block g hg).trans h
theorem Blk.grown {row : Option Nat} (h : Blk w g t cs) (hb : w.grownBy w' row) (hg : some g ≠ row) : Blk w' g t cs := (hb.block g h.lt hg).trans h
theorem Blk.boxed {v : Value} (h : Blk w g t #[v]) : Boxed w g t v := h
end
/-- block g's cells read as cs, whatever its mark -/
def Cells (w : World) (g : Nat) (cs : Array Value) : Prop := ∀ i, w.cell? ⟨g, i, none⟩ = cs[i]?
theorem Blk.cells {w : World} {g t : Nat} {cs : Array Value} (h : Blk w g t cs) : Cells w g cs := h.cell
theorem Cells.new (w : World) (t : Nat) (cs : Array Value) (fr : Nat × Nat) : Cells (w.alloc (.cells cs t fr)) w.heap.size cs := fun i => by
  have h : (w.alloc (.cells cs t fr)).heap[w.heap.size]? = some (.cells cs t fr) := World.alloc_heap_new w _
  simp only [World.cell?, h]
  rfl
theorem Cells.below {w w' : World} {g B : Nat} {cs : Array Value} (h : Cells w g cs) (hb : Below B w w') (hg : g < B) : Cells w' g cs := fun i => (hb.cell (p := ⟨g, i, none⟩) hg).trans (h i)
theorem Cells.alloc {w : World} {g : Nat} {cs : Array Value} (h : Cells w g cs) (hg : g < w.heap.size) (o : Obj) : Cells (w.alloc o) g cs := h.below ((Below.refl w.heap.size w).alloc (Nat.le_refl _) o) hg
theorem heap_setCell_ne (w : World) {g k : Nat} (h : k ≠ g) (i : Nat) (u : Value) : (w.setCell ⟨g, i, none⟩ u).heap[k]? = w.heap[k]? := Below.heap_setCell w ⟨g, i, none⟩ u k h
theorem size_setCell (w : World) (p : Addr) (u : Value) : (w.setCell p u).heap.size = w.heap.size := by simp [World.setCell]
theorem below_grown {B : Nat} {w w' : World} {row : Option Nat} (hg : w.grownBy w' row) (hB : B ≤ w.heap.size) (hr : ∀ k, row = some k → B ≤ k) : Below B w w' := (Below.refl B w).grown hg hB hr
theorem below_grown1 {B : Nat} {w w' : World} {r : Nat} (hg : w.grownBy w' (some r)) (hB : B ≤ w.heap.size) (hr : B ≤ r) : Below B w w' := (Below.refl B w).grown hg hB (fun k e => by cases e; exact hr)
end Go.Proofs.Ytamdejidkgnaeaa

namespace Go.Proofs.Ytamdejidkgnaeaa
open Go.RowKit

/-- the slice value .slice A n _ (elements of s cells) holds the cells xs and lies below block B -/
def ReadsAt (w : World) (B s : Nat) (A : Option Addr) (n : Nat) (xs : List Value) : Prop :=
  xs.length = n * s ∧ (0 < n → ∃ b off, A = some ⟨b, off, none⟩ ∧ b < B ∧ ∀ j u, xs[j]? = some u → w.cell? ⟨b, off + j, none⟩ = some u)

section
variable {w w' : World} {B B' s n : Nat} {A : Option Addr} {xs : List Value}
theorem ReadsAt.nil : ReadsAt w B s A 0 [] := ⟨by simp, fun h => absurd h (by omega)⟩
theorem ReadsAt.keep (h : ReadsAt w B s A n xs) (hk : ∀ p : Addr, p.block < B → w'.cell? p = w.cell? p) : ReadsAt w' B s A n xs :=
  ⟨h.1, fun hn => by
    obtain ⟨b, off, e, hb, hc⟩ := h.2 hn
    exact ⟨b, off, e, hb, fun j u hu => (hk _ hb).trans (hc j u hu)⟩⟩
theorem ReadsAt.more (h : ReadsAt w B s A n xs) (hB : B ≤ B') : ReadsAt w B' s A n xs :=
  ⟨h.1, fun hn => by
    obtain ⟨b, off, e, hb, hc⟩ := h.2 hn
    exact ⟨b, off, e, by omega, hc⟩⟩
theorem ReadsAt.below (h : ReadsAt w B s A n xs) (hb : Below B w w') : ReadsAt w' B s A n xs := h.keep fun _ hp => hb.cell hp
theorem ReadsAt.drewN (h : ReadsAt w B s A n xs) (k : Nat) : ReadsAt (w.drewN k) B s A n xs := h
end

/-- a byte as a cell -/
def b8 (x : UInt8) : Value := .int .u8 (x.toNat : Int)

/-- the slice reads as the bytes l -/
def BytesAt (w : World) (B : Nat) (A : Option Addr) (n : Nat) (l : List UInt8) : Prop := ReadsAt w B 1 A n (l.map b8)

section
variable {w w' : World} {B B' n : Nat} {A : Option Addr} {l : List UInt8}
theorem BytesAt.len (h : BytesAt w B A n l) : l.length = n := by simpa using h.1
theorem BytesAt.below (h : BytesAt w B A n l) (hb : Below B w w') : BytesAt w' B A n l := ReadsAt.below h hb
theorem BytesAt.more (h : BytesAt w B A n l) (hB : B ≤ B') : BytesAt w B' A n l := ReadsAt.more h hB
theorem BytesAt.drewN (h : BytesAt w B A n l) (k : Nat) : BytesAt (w.drewN k) B A n l := h
theorem BytesAt.nil : BytesAt w B A 0 [] := ReadsAt.nil
theorem BytesAt.at_ (h : BytesAt w B A n l) (hn : 0 < n) : ∃ b off, A = some ⟨b, off, none⟩ ∧ b < B ∧ ∀ j x, l[j]? = some x → w.cell? ⟨b, off + j, none⟩ = some (.int .u8 (x.toNat : Int)) := by
  obtain ⟨b, off, e, hb, hc⟩ := h.2 hn
  exact ⟨b, off, e, hb, fun j x hx => hc j (b8 x) (by rw [List.getElem?_map, hx]; rfl)⟩
theorem BytesAt.of_cells {g : Nat} {cs : Array Value} (hg : Cells w g cs) (hB : g < B) (hl : l.length = n) (h : ∀ (j : Nat) (x : UInt8), l[j]? = some x → cs[j]? = some (b8 x)) : BytesAt w B (some ⟨g, 0, none⟩) n l := by
  refine ⟨by simpa using hl, fun _ => ⟨g, 0, rfl, hB, fun j u hu => ?_⟩⟩
  rw [List.getElem?_map] at hu
  cases hx : l[j]? with
  | none => rw [hx] at hu; cases hu
  | some x =>
    rw [hx] at hu
    cases hu
    rw [hg, Nat.zero_add]
    exact h j x hx
theorem BytesAt.of_row {g : Nat} (hg : Cells w g (l.map b8).toArray) (hB : g < B) : BytesAt w B (some ⟨g, 0, none⟩) l.length l :=
  BytesAt.of_cells hg hB rfl (fun j x hx => by simp [hx])
theorem BytesAt.keep (h : BytesAt w B A n l) (hk : ∀ p : Addr, p.block < B → w'.cell? p = w.cell? p) : BytesAt w' B A n l := ReadsAt.keep h hk
end

/-- an int as a cell -/
def i64v (x : Int) : Value := .int .i64 x
/-- the slice reads as the ints l -/
def IntsAt (w : World) (B : Nat) (A : Option Addr) (n : Nat) (l : List Int) : Prop := ReadsAt w B 1 A n (l.map i64v)

section
variable {w w' : World} {B B' n : Nat} {A : Option Addr} {l : List Int}
theorem IntsAt.len (h : IntsAt w B A n l) : l.length = n := by simpa using h.1
theorem IntsAt.below (h : IntsAt w B A n l) (hb : Below B w w') : IntsAt w' B A n l := ReadsAt.below h hb
theorem IntsAt.more (h : IntsAt w B A n l) (hB : B ≤ B') : IntsAt w B' A n l := ReadsAt.more h hB
theorem IntsAt.keep (h : IntsAt w B A n l) (hk : ∀ p : Addr, p.block < B → w'.cell? p = w.cell? p) : IntsAt w' B A n l := ReadsAt.keep h hk
theorem IntsAt.drewN (h : IntsAt w B A n l) (k : Nat) : IntsAt (w.drewN k) B A n l := h
theorem IntsAt.nil : IntsAt w B A 0 [] := ReadsAt.nil
theorem IntsAt.at_ (h : IntsAt w B A n l) (hn : 0 < n) : ∃ b off, A = some ⟨b, off, none⟩ ∧ b < B ∧ ∀ j x, l[j]? = some x → w.cell? ⟨b, off + j, none⟩ = some (.int .i64 x) := by
  obtain ⟨b, off, e, hb, hc⟩ := h.2 hn
  exact ⟨b, off, e, hb, fun j x hx => hc j (i64v x) (by rw [List.getElem?_map, hx]; rfl)⟩
theorem IntsAt.of_row {g : Nat} (hg : Cells w g (l.map i64v).toArray) (hB : g < B) : IntsAt w B (some ⟨g, 0, none⟩) l.length l :=
  ⟨by simp, fun _ => ⟨g, 0, rfl, hB, fun j u hu => by rw [hg, Nat.zero_add]; simpa using hu⟩⟩
end

/-- a slice of slices of bytes reads as the rows ls -/
def RowsAt (w : World) (B : Nat) (A : Option Addr) (n : Nat) (ls : List (List UInt8)) : Prop :=
  ls.length = n ∧ (0 < n → ∃ b off, A = some ⟨b, off, none⟩ ∧ b < B ∧ ∀ (j : Nat) (l : List UInt8), ls[j]? = some l → ∃ A' n' c', w.cell? ⟨b, off + j, none⟩ = some (.slice A' n' c') ∧ n' ≤ c' ∧ c' ≤ maxLen ∧ BytesAt w B A' n' l)

section
variable {w w' : World} {B B' n : Nat} {A : Option Addr} {ls : List (List UInt8)}
theorem RowsAt.below (h : RowsAt w B A n ls) (hb : Below B w w') : RowsAt w' B A n ls :=
  ⟨h.1, fun hn => by
    obtain ⟨b, off, e, hlt, hc⟩ := h.2 hn
    refine ⟨b, off, e, hlt, fun j l hl => ?_⟩
    obtain ⟨A', n', c', h1, h2, h3, h4⟩ := hc j l hl
    exact ⟨A', n', c', (hb.cell (p := ⟨b, off + j, none⟩) hlt).trans h1, h2, h3, h4.below hb⟩⟩
theorem RowsAt.more (h : RowsAt w B A n ls) (hB : B ≤ B') : RowsAt w B' A n ls :=
  ⟨h.1, fun hn => by
    obtain ⟨b, off, e, hlt, hc⟩ := h.2 hn
    refine ⟨b, off, e, by omega, fun j l hl => ?_⟩
    obtain ⟨A', n', c', h1, h2, h3, h4⟩ := hc j l hl
    exact ⟨A', n', c', h1, h2, h3, h4.more hB⟩⟩
theorem RowsAt.one {g n' c' : Nat} {A' : Option Addr} {l : List UInt8} (hg : Cells w g #[.slice A' n' c']) (hB : g < B) (h : BytesAt w B A' n' l) (hn : n' ≤ c') (hc : c' ≤ maxLen) : RowsAt w B (some ⟨g, 0, none⟩) 1 [l] := by
  refine ⟨rfl, fun _ => ⟨g, 0, rfl, hB, fun j l' hl => ?_⟩⟩
  cases j with
  | zero =>
    obtain rfl : l = l' := by simpa using hl
    exact ⟨A', n', c', by rw [hg]; rfl, hn, hc, h⟩
  | succ j => simp at hl
theorem RowsAt.drewN (h : RowsAt w B A n ls) (k : Nat) : RowsAt (w.drewN k) B A n ls := h
theorem RowsAt.nil : RowsAt w B A 0 [] := ⟨rfl, fun h => absurd h (by omega)⟩
end
end Go.Proofs.Ytamdejidkgnaeaa

namespace Go.Proofs.Ytamdejidkgnaeaa
open Go.RowKit

/-- slice type t has elements of type e, with zero value z, of size cells and bytes bytes -/
structure AppTy (P : Program) (t e : TypeId) (z : Value) (size bytes : Nat) : Prop where
  ht : P.underlying t = some (.slice e)
  info : ∃ i : TypeInfo, P.info? e = some i ∧ i.zero = some z ∧ i.size = size ∧ i.bytes = bytes
  hz : z.cells.size = size
  pos : 0 < size

theorem AppTy.mk' {P : Program} {t e : TypeId} {z : Value} {size bytes : Nat} (ht : P.underlying t = some (.slice e)) (hi : (P.info? e).map (fun i => (i.zero, i.size, i.bytes)) = some (some z, size, bytes)) (hz : z.cells.size = size) (pos : 0 < size) : AppTy P t e z size bytes := by
  obtain ⟨i0, h1, h2, h3, h4⟩ := info_parts hi
  exact ⟨ht, ⟨i0, h1, h2, h3, h4⟩, hz, pos⟩

section
variable {P : Program} (w : World)

theorem run_append_nothing {base t ty e size : Nat} {z : Value} {bytes : Nat} (T : AppTy P t e z size bytes) {v : Value} {n : Nat} {xs : List Value} (hown : w.ownsRow base e size v n xs) (c : Nat) :
    (Builtin.append_ #[t, t] ty #[v, .slice none 0 c]).run P w = .ok v w := by
  obtain ⟨i, hi, _⟩ := T.info
  have ht := T.ht
  rcases hown.2 with ⟨rfl, rfl⟩ | ⟨g, cap, cur, rfl, _, _, hnc, _⟩
  · simp [Builtin.append_, run_underlying ht, sizeOf, typeInfo, hi, Builtin.lenOf, Builtin.firstCells]
  · simp [Builtin.append_, run_underlying ht, sizeOf, typeInfo, hi, Builtin.lenOf, Builtin.firstCells, hnc, storeCells]

theorem run_append_reads {base t ty e size bytes : Nat} {z : Value} (T : AppTy P t e z size bytes) {v : Value} {n : Nat} {xs : List Value} (hown : w.ownsRow base e size v n xs)
    {B : Nat} {A : Option Addr} {m c : Nat} {news : List Value} (hr : ReadsAt w B size A m news) (h1 : ∀ u ∈ news, u.oneCell' = true)
    (h63 : n + m ≤ maxLen) (hbytes : (n + m) * bytes ≤ 140737488355328) (hbase : base ≤ w.heap.size) :
    ∃ v' w', (Builtin.append_ #[t, t] ty #[v, .slice A m c]).run P w = .ok v' w' ∧ w'.ownsRow base e size v' (n + m) (xs ++ news) ∧ w.grownBy w' v.ownBlock ∧
      (v'.ownBlock = v.ownBlock ∨ v'.ownBlock = some w.heap.size) := by
  have nothing : m = 0 → news = [] := fun h0 => List.eq_nil_of_length_eq_zero (by rw [hr.1, h0, Nat.zero_mul])
  rcases A with _ | ad
  · have hm : m = 0 := by
      rcases Nat.eq_zero_or_pos m with h0 | h0
      · exact h0
      · obtain ⟨b, off, h, _⟩ := hr.2 h0
        cases h
    obtain rfl := hm
    rw [nothing rfl]
    exact ⟨v, w, run_append_nothing w T hown c, by simpa using hown, World.grownBy.refl w _, .inl rfl⟩
  · have hcells : ∀ j u, news[j]? = some u → w.cell? (ad.add j) = some u := by
      intro j u hu
      rcases Nat.eq_zero_or_pos m with h0 | h0
      · rw [nothing h0] at hu
        simp at hu
      · obtain ⟨b, off, h, _, hc⟩ := hr.2 h0
        injection h with h
        subst h
        have : (⟨b, off, none⟩ : Addr).add j = ⟨b, off + j, none⟩ := by unfold Addr.add; split <;> simp_all
        rw [this]
        exact hc j u hu
    obtain ⟨i, hi, hz, hs, hb⟩ := T.info
    obtain ⟨v', w', hrun, h2, h3, _, h5⟩ := run_append_own_at (P := P) w base t ty e i z size bytes T.ht hi hz hs hb T.hz T.pos v n xs hown ad m c news hr.1 hcells h1 h63 hbytes hbase
    exact ⟨v', w', hrun, h2, h3, h5⟩

theorem wp_append_reads {o : Oper} {a : Act} {K : Act → World → Prop} {Q : Exit → Act → World → Prop} (s x : Operand) {t : TypeId}
    (ho : o.op = .call { callee := .builtin .append, args := #[s, x], argTypes := #[t, t] })
    {base e size bytes : Nat} {z : Value} (T : AppTy P t e z size bytes) {v : Value} {n : Nat} {xs : List Value} (hs : a.eval s = v) (hown : w.ownsRow base e size v n xs)
    {B : Nat} {A : Option Addr} {m c : Nat} {news : List Value} (hx : a.eval x = .slice A m c) (hr : ReadsAt w B size A m news) (h1 : ∀ u ∈ news, u.oneCell' = true)
    (h63 : n + m ≤ maxLen) (hbytes : (n + m) * bytes ≤ 140737488355328) (hbase : base ≤ w.heap.size)
    (h : ∀ v' w', w'.ownsRow base e size v' (n + m) (xs ++ news) → w.grownBy w' v.ownBlock → (v'.ownBlock = v.ownBlock ∨ v'.ownBlock = some w.heap.size) → K (a.put o.dst v') w') : o.wp P a w K Q := by
  obtain ⟨v', w', hrun, h2, h3, h4⟩ := run_append_reads (P := P) w (ty := o.type) T hown (c := c) hr h1 h63 hbytes hbase
  unfold Oper.wp execOp
  simp only [ho, resolve, invoke, builtin, Sem.run_bind, Sem.run_pure, Result.andThen_ok, List.map_toArray, List.map_cons, List.map_nil, hs, hx, hrun]
  exact h v' w' h2 h3 h4

theorem wpList_append_reads {ops : Array Oper} {rest : List Oper} {o : Oper} {a : Act} {Q : Exit → Act → World → Prop} (hgd : o.guard = none) (s x : Operand) {t : TypeId}
    (ho : o.op = .call { callee := .builtin .append, args := #[s, x], argTypes := #[t, t] })
    {base e size bytes : Nat} {z : Value} (T : AppTy P t e z size bytes) {v : Value} {n : Nat} {xs : List Value} (hs : a.eval s = v) (hown : w.ownsRow base e size v n xs)
    {B : Nat} {A : Option Addr} {m c : Nat} {news : List Value} (hx : a.eval x = .slice A m c) (hr : ReadsAt w B size A m news) (h1 : ∀ u ∈ news, u.oneCell' = true)
    (h63 : n + m ≤ maxLen) (hbytes : (n + m) * bytes ≤ 140737488355328) (hbase : base ≤ w.heap.size)
    (h : ∀ v' w', w'.ownsRow base e size v' (n + m) (xs ++ news) → w.grownBy w' v.ownBlock → (v'.ownBlock = v.ownBlock ∨ v'.ownBlock = some w.heap.size) → wpList P ops Q rest (a.put o.dst v') w') : wpList P ops Q (o :: rest) a w :=
  wpList_plain hgd fun _ hK => wp_append_reads w s x ho T hs hown hx hr h1 h63 hbytes hbase fun v' w' h2 h3 h4 => hK _ _ (h v' w' h2 h3 h4)

theorem wpListIn_append_reads {F : Fence} {k : Nat} {ops : Array Oper} {rest : List Oper} {o : Oper} {a : Act} {Q : Exit → Act → World → Prop} (hgd : o.guard = none) (s x : Operand) {t : TypeId}
    (ho : o.op = .call { callee := .builtin .append, args := #[s, x], argTypes := #[t, t] })
    {base e size bytes : Nat} {z : Value} (T : AppTy P t e z size bytes) {v : Value} {n : Nat} {xs : List Value} (hs : a.eval s = v) (hown : w.ownsRow base e size v n xs)
    {B : Nat} {A : Option Addr} {m c : Nat} {news : List Value} (hx : a.eval x = .slice A m c) (hr : ReadsAt w B size A m news) (h1 : ∀ u ∈ news, u.oneCell' = true)
    (h63 : n + m ≤ maxLen) (hbytes : (n + m) * bytes ≤ 140737488355328) (hbase : base ≤ w.heap.size)
    (h : ∀ v' w', w'.ownsRow base e size v' (n + m) (xs ++ news) → w.grownBy w' v.ownBlock → (v'.ownBlock = v.ownBlock ∨ v'.ownBlock = some w.heap.size) → wpListIn F k P ops Q rest (a.put o.dst v') w') : wpListIn F k P ops Q (o :: rest) a w := by
  refine wpListIn_plain hgd fun K hK' => ?_
  obtain ⟨v', w', hrun, h2, h3, h4⟩ := run_append_reads (P := P) w (ty := o.type) T hown (c := c) hr h1 h63 hbytes hbase
  unfold Oper.wpIn
  refine ⟨?_, ?_⟩
  · simp [Oper.about, ho, resolve, Target.leads, Sem.run_pure]
  · rw [Oper.semAt_plain F _ _ (by rw [ho]; intro c hc'; cases hc')]
    simp [execOp, ho, resolve, invoke, builtin, hs, hx, hrun, Result.andThen]
    exact hK' _ _ (h v' w' h2 h3 h4)
end

section
variable {P : Program} (w : World)
/-- append within the capacity, whatever is appended (nil, empty or not): the value stays where it is -/
theorem run_append_fits_reads {base t ty e size bytes : Nat} {z : Value} (T : AppTy P t e z size bytes) {g n cap : Nat} {xs : List Value} (hown : w.ownsRow base e size (.slice (some ⟨g, 0, none⟩) n cap) n xs)
    {B : Nat} {A : Option Addr} {m c : Nat} {news : List Value} (hr : ReadsAt w B size A m news) (h1 : ∀ u ∈ news, u.oneCell' = true) (hroom : n + m ≤ cap) :
    ∃ w', (Builtin.append_ #[t, t] ty #[.slice (some ⟨g, 0, none⟩) n cap, .slice A m c]).run P w = .ok (.slice (some ⟨g, 0, none⟩) (n + m) cap) w' ∧
      w'.ownsRow base e size (.slice (some ⟨g, 0, none⟩) (n + m) cap) (n + m) (xs ++ news) ∧ w.grownBy w' (some g) := by
  have nothing : m = 0 → news = [] := fun h0 => List.eq_nil_of_length_eq_zero (by rw [hr.1, h0, Nat.zero_mul])
  rcases A with _ | ad
  · have hm : m = 0 := by
      rcases Nat.eq_zero_or_pos m with h0 | h0
      · exact h0
      · obtain ⟨b, off, h, _⟩ := hr.2 h0
        cases h
    obtain rfl := hm
    rw [nothing rfl]
    exact ⟨w, run_append_nothing w T hown c, by simpa using hown, World.grownBy.refl w _⟩
  · have hcells : ∀ j u, news[j]? = some u → w.cell? (ad.add j) = some u := by
      intro j u hu
      rcases Nat.eq_zero_or_pos m with h0 | h0
      · rw [nothing h0] at hu
        simp at hu
      · obtain ⟨b, off, h, _, hc⟩ := hr.2 h0
        injection h with h
        subst h
        have : (⟨b, off, none⟩ : Addr).add j = ⟨b, off + j, none⟩ := by unfold Addr.add; split <;> simp_all
        rw [this]
        exact hc j u hu
    obtain ⟨i, hi, hz, hs, hb⟩ := T.info
    exact run_append_fits (P := P) w base t ty e i size T.ht hi hs g n cap xs hown ad m c news hr.1 hcells h1 hroom
theorem wpList_append_fits_reads {ops : Array Oper} {rest : List Oper} {o : Oper} {a : Act} {Q : Exit → Act → World → Prop} (hgd : o.guard = none) (s x : Operand) {t : TypeId}
    (ho : o.op = .call { callee := .builtin .append, args := #[s, x], argTypes := #[t, t] })
    {base e size bytes : Nat} {z : Value} (T : AppTy P t e z size bytes) {g n cap : Nat} {xs : List Value} (hs : a.eval s = .slice (some ⟨g, 0, none⟩) n cap) (hown : w.ownsRow base e size (.slice (some ⟨g, 0, none⟩) n cap) n xs)
    {B : Nat} {A : Option Addr} {m c : Nat} {news : List Value} (hx : a.eval x = .slice A m c) (hr : ReadsAt w B size A m news) (h1 : ∀ u ∈ news, u.oneCell' = true) (hroom : n + m ≤ cap)
    (h : ∀ w', w'.ownsRow base e size (.slice (some ⟨g, 0, none⟩) (n + m) cap) (n + m) (xs ++ news) → w.grownBy w' (some g) → wpList P ops Q rest (a.put o.dst (.slice (some ⟨g, 0, none⟩) (n + m) cap)) w') : wpList P ops Q (o :: rest) a w := by
  refine wpList_plain hgd fun K hK => ?_
  obtain ⟨w', hrun, h2, h3⟩ := run_append_fits_reads (P := P) w (ty := o.type) T hown (c := c) hr h1 hroom
  unfold Oper.wp execOp
  simp only [ho, resolve, invoke, builtin, Sem.run_bind, Sem.run_pure, Result.andThen_ok, List.map_toArray, List.map_cons, List.map_nil, hs, hx, hrun]
  exact hK _ _ (h w' h2 h3)
theorem wpList_make_fresh {ops : Array Oper} {rest : List Oper} {o : Oper} {a : Act} {Q : Exit → Act → World → Prop} (hgd : o.guard = none) (l c : Operand) {t : TypeId} (hop : o.op = Op.makeSlice t l c)
    {base e size bytes : Nat} {z : Value} (T : AppTy P t e z size bytes) {kl kc : IntKind} {C : Int} (n : Nat) (hl : a.eval l = .int kl 0) (hc : a.eval c = .int kc C) (hC : C = (n : Int)) (b2 : bytes * n ≤ 281474976710656) (b3 : n ≤ maxLen) (b4 : base ≤ w.heap.size)
    (hK : ∀ w', w'.ownsRow base e size (.slice (some ⟨w.heap.size, 0, none⟩) 0 n) 0 [] → w.grownBy w' none → wpList P ops Q rest (a.put o.dst (.slice (some ⟨w.heap.size, 0, none⟩) 0 n)) w') : wpList P ops Q (o :: rest) a w := by
  obtain ⟨i, hi, hz, hs, hb⟩ := T.info
  exact wpList_make_own w hgd l c t hop base e i z size T.ht hi hz hs kl kc C n hl hc hC (by rw [hb]; exact b2) b3 b4 hK
end
theorem own_below {w w' : World} {base e size n : Nat} {v : Value} {xs : List Value} (h : w.ownsRow base e size v n xs) (hb : Below w.heap.size w w') : w'.ownsRow base e size v n xs :=
  h.kept (row := none) ⟨hb.os, hb.tape, hb.output, hb.size, fun k hk _ => hb.block k hk⟩ (by cases hv : v.ownBlock <;> simp)
/-- a row of one cell that was just made -/
theorem ReadsAt.made (w : World) (t : Nat) (cs : List Value) : ReadsAt (w.alloc (.cells cs.toArray t)) (w.heap.size + 1) 1 (some ⟨w.heap.size, 0, none⟩) cs.length cs :=
  ⟨by simp, fun _ => ⟨w.heap.size, 0, rfl, by omega, fun j u hu => by
    rw [(Blk.new w t cs.toArray).cell, Nat.zero_add]
    simpa using hu⟩⟩
theorem ReadsAt.made1 (w : World) (t : Nat) (u : Value) : ReadsAt (w.alloc (.cells #[u] t)) (w.heap.size + 1) 1 (some ⟨w.heap.size, 0, none⟩) 1 [u] := ReadsAt.made w t [u]
theorem BytesAt.made1 (w : World) (t : Nat) (x : UInt8) : BytesAt (w.alloc (.cells #[.int .u8 (x.toNat : Int)] t)) (w.heap.size + 1) (some ⟨w.heap.size, 0, none⟩) 1 [x] := ReadsAt.made1 w t (b8 x)
/-- an owned row that is full is its block -/
theorem own_full {w : World} {base e g n : Nat} {xs : List Value} (h : w.ownsRow base e 1 (.slice (some ⟨g, 0, none⟩) n n) n xs) : Blk w g e xs.toArray := by
  rcases h.2 with ⟨h0, _⟩ | ⟨g', cap, cur, hv, hb, hg, hnc, hcm, hcs, ht⟩
  · cases h0
  · simp only [Value.slice.injEq, Option.some.injEq, Addr.mk.injEq, and_true, true_and] at hv
    obtain ⟨rfl, rfl⟩ := hv
    have e1 : cur.toList = xs := by rw [← ht, List.take_of_length_le]; simp [hcs]
    rw [Blk, ← e1]
    simpa using hg

/-- an owned slice with an element is written out -/
theorem own_slice {w : World} {base e size n : Nat} {v : Value} {xs : List Value} (h : w.ownsRow base e size v n xs) (hn : 0 < n) : ∃ g cap, v = .slice (some ⟨g, 0, none⟩) n cap ∧ base ≤ g ∧ g < w.heap.size ∧ n ≤ cap ∧ cap ≤ maxLen := by
  rcases h.2 with ⟨_, h0⟩ | ⟨g, cap, cur, rfl, hb, hg, hnc, hcm, _⟩
  · omega
  · exact ⟨g, cap, rfl, hb, (Array.getElem?_eq_some_iff.1 hg).1, hnc, hcm⟩
theorem ReadsAt.of_own {w : World} {base e size n g cap : Nat} {xs : List Value} (h : w.ownsRow base e size (.slice (some ⟨g, 0, none⟩) n cap) n xs) : ReadsAt w w.heap.size size (some ⟨g, 0, none⟩) n xs := by
  refine ⟨h.1, fun _ => ⟨g, 0, rfl, (h.lt g rfl).2, fun j u hu => ?_⟩⟩
  have hj : j < xs.length := (List.getElem?_eq_some_iff.1 hu).1
  rw [Nat.zero_add, h.cellAt j (by rw [← h.1]; exact hj)]
  exact hu

theorem b8_one : ∀ (l : List UInt8), ∀ u ∈ l.map b8, u.oneCell' = true := fun l u hu => by
  obtain ⟨x, _, rfl⟩ := List.mem_map.1 hu
  rfl
theorem own_reads {w : World} {base e size n : Nat} {v : Value} {xs : List Value} (h : w.ownsRow base e size v n xs) : ∃ A c, v = .slice A n c ∧ n ≤ c ∧ c ≤ maxLen ∧ ReadsAt w w.heap.size size A n xs := by
  rcases h.2 with ⟨rfl, rfl⟩ | ⟨g, cap, cur, rfl, hb, hg, hnc, hcm, _⟩
  · exact ⟨none, 0, rfl, Nat.le_refl _, Nat.zero_le _, h.1, fun h0 => absurd h0 (by omega)⟩
  · exact ⟨some ⟨g, 0, none⟩, cap, rfl, hnc, hcm, ReadsAt.of_own h⟩
end Go.Proofs.Ytamdejidkgnaeaa

namespace Go.Proofs.Ytamdejidkgnaeaa
open Go.RowKit

/-- a place's mark -/
def markI (k i : Int) : Int := 1000003 * (k + 7) + i
theorem u8_mod (x : Int) : x % 256 = ((UInt8.ofNat (x % 256).toNat).toNat : Int) := by
  rw [UInt8.toNat_ofNat', Nat.mod_eq_of_lt (by omega)]
  omega
/-- a place's mark among bytes -/
def markB (k i : Int) : UInt8 := UInt8.ofNat (IntKind.u64.wrap (markI k i * 11400714819323198485) / 72057594037927936 % 256).toNat
theorem markB_eq (k i m : Int) (h : markI k i = m) : IntKind.u64.wrap (m * 11400714819323198485) / 72057594037927936 % 256 = ((markB k i).toNat : Int) := by
  rw [markB, h]
  exact u8_mod _
end Go.Proofs.Ytamdejidkgnaeaa

namespace Go.Proofs.Ytamdejidkgnaeaa
open Go.RowKit

/-- are two rows one? -/
def sameL {α : Type} [BEq α] (a b : List α) : Bool := a == b
section
variable {α : Type} [BEq α] [LawfulBEq α]
theorem sameL_self (a : List α) : sameL a a = true := by simp [sameL]
theorem sameL_eq {a b : List α} (h : a = b) : sameL a b = true := by rw [h]; exact sameL_self b
omit [BEq α] [LawfulBEq α] in
theorem same_take {l l2 : List α} {k : Nat} {x : α} (h : l.take k = l2.take k) (hx : l[k]? = some x) (hy : l2[k]? = some x) : Hid (l.take (k + 1) = l2.take (k + 1)) := by
  show l.take (k + 1) = l2.take (k + 1)
  rw [List.take_add_one, List.take_add_one, hx, hy, h]
theorem same_no {l l2 : List α} {k : Nat} {x y : α} (hx : l[k]? = some x) (hy : l2[k]? = some y) (h : ¬ x = y) : sameL l l2 = false := by
  rw [sameL, beq_eq_false_iff_ne]
  rintro rfl
  rw [hx] at hy
  cases hy
  exact h rfl
theorem same_yes {l l2 : List α} {k : Nat} (h : l.take k = l2.take k) (h1 : l.length = k) (h2 : l2.length = k) : sameL l l2 = true := by
  rw [List.take_of_length_le (by omega), List.take_of_length_le (by omega)] at h
  exact sameL_eq h
end

end Go.Proofs.Ytamdejidkgnaeaa

namespace Go.Proofs.Ytamdejidkgnaeaa
theorem quiet_add_left {P : Program} {f : FuncId} {args : Array Value} {w : World} {a n : Nat} {v : Value}
    (h : Calls P f args (w.drewN (a + n)) fun e w' => e = .returned v ∧ w.drewN (a + n) = w') :
    Calls P f args (w.drewN (a + n)) fun e w'' => e = .returned v ∧ ∃ m, w'' = w.drewN (a + m) :=
  h.mono fun _ _ ⟨he, hm⟩ => ⟨he, n, hm.symm⟩
theorem quiet_left {P : Program} {f : FuncId} {args : Array Value} {w : World} {n : Nat} {v : Value}
    (h : Calls P f args (w.drewN n) fun e w' => e = .returned v ∧ w.drewN n = w') : Calls P f args (w.drewN n) fun e w'' => e = .returned v ∧ ∃ m, w'' = w.drewN m :=
  h.mono fun _ _ ⟨he, hm⟩ => ⟨he, n, hm.symm⟩
/-- a quiet call that draws itself -/
theorem quiet_add_drew {P : Program} {f : FuncId} {args : Array Value} {w : World} {a n : Nat} {v : Value}
    (h : Calls P f args (w.drewN (a + n)) fun e w' => e = .returned v ∧ ∃ q, (w.drewN (a + n)).drewN q = w') :
    Calls P f args (w.drewN (a + n)) fun e w'' => e = .returned v ∧ ∃ m, w'' = w.drewN (a + m) :=
  h.mono fun _ _ ⟨he, q, hm⟩ => ⟨he, n + q, by rw [← hm, World.drewN_drewN, Nat.add_assoc]⟩
theorem quiet_drew {P : Program} {f : FuncId} {args : Array Value} {w : World} {n : Nat} {v : Value}
    (h : Calls P f args (w.drewN n) fun e w' => e = .returned v ∧ ∃ q, (w.drewN n).drewN q = w') : Calls P f args (w.drewN n) fun e w'' => e = .returned v ∧ ∃ m, w'' = w.drewN m :=
  h.mono fun _ _ ⟨he, q, hm⟩ => ⟨he, n + q, by rw [← hm, World.drewN_drewN]⟩
end Go.Proofs.Ytamdejidkgnaeaa

namespace Go.Proofs.Ytamdejidkgnaeaa
open Go.RowKit

/-- the marks behind -/
def lentTail (i : Nat) : List UInt8 := (List.range i).map fun j : Nat => markB 1 (j : Int)
theorem lentTail_succ (i : Nat) : lentTail (i + 1) = lentTail i ++ [markB 1 (i : Int)] := by simp [lentTail, List.range_succ]
theorem lentTail_length (i : Nat) : (lentTail i).length = i := by simp [lentTail]
theorem lentTail_get (i j : Nat) (h : j < i) : (lentTail i)[j]? = some (markB 1 (j : Int)) := by simp [lentTail, h]

/-- block g holds the bytes l, and the marks behind them -/
def LentAt (w : World) (g : Nat) (l : List UInt8) : Prop := Blk w g 5 ((l ++ lentTail 12).map b8).toArray

/-- what the loop of the marks holds -/
structure LentInv (w : World) (g n : Nat) (l : List UInt8) (i : Nat) (wr : World) : Prop where
  own : wr.ownsRow w.heap.size 5 1 (.slice (some ⟨g, 0, none⟩) (n + i) (n + 12)) (n + i) ((l ++ lentTail i).map b8)
  below : Below w.heap.size w wr

theorem Blk.byte {w : World} {g t : Nat} {xs : List UInt8} (h : Blk w g t (xs.map b8).toArray) (i : Nat) (x : UInt8) (hx : xs[i]? = some x) : w.cell? ⟨g, i, none⟩ = some (.int .u8 (x.toNat : Int)) := by
  rw [h.cell]
  simp [hx, b8]
theorem lent_get1 (l : List UInt8) (i : Nat) (x : UInt8) (h : l[i]? = some x) : (l ++ lentTail 12)[i]? = some x := by
  rw [List.getElem?_append_left (List.getElem?_eq_some_iff.1 h).1]; exact h
theorem lent_get2 (l : List UInt8) (i n : Nat) (hn : l.length = n) (h1 : n ≤ i) (h2 : i < n + 12) : (l ++ lentTail 12)[i]? = some (markB 1 ((i : Int) - (n : Int))) := by
  rw [List.getElem?_append_right (by omega), lentTail_get _ _ (by omega), hn]
  congr 2
  omega

theorem LentAt.below {w w' : World} {g B : Nat} {l : List UInt8} (h : LentAt w g l) (hb : Below B w w') (hg : g < B) : LentAt w' g l := Blk.below h hb hg
theorem LentAt.bytes {w : World} {g B : Nat} {l : List UInt8} (h : LentAt w g l) (hg : g < B) : BytesAt w B (some ⟨g, 0, none⟩) l.length l :=
  BytesAt.of_cells h.cells hg rfl (fun j x hx => by
    have e := lent_get1 l j x hx
    rw [List.getElem?_toArray, List.getElem?_map, e]
    rfl)
end Go.Proofs.Ytamdejidkgnaeaa
