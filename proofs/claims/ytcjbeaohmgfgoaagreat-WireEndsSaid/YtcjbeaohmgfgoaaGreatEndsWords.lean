/-
  Words and small walks for mudlarklaw02.WireEnds: lists of things just made; a region; no writer, no reader.
-/
import Derived.Test.YtcjbeaohmgfgoaaGreatThing
import Derived.Test.YtcjbeaohmgfgoaaGreatFacts
import Derived.Test.YtcjbeaohmgfgoaaGreatGets
import Derived.Test.YtcjbeaohmgfgoaaGreatDoes
import Derived.Test.YtcjbeaohmgfgoaaGreatStagesD
import Derived.Test.YtcjbeaohmgfgoaaGreatAppendTwo
import Derived.Outline
import Derived.WalkKit
import Derived.LoopTactic
import Derived.Great.Walk
import Derived.Test.YtcjbeaohmgfgoaaGreatProg
import Derived.Test.YtcjbeaohmgfgoaaGreatWRising
namespace Go.Proofs.YtcjbeaohmgfgoaaGreat
open Go.RowKit

/-- a thing and where its bytes and its row lie -/
structure TV where
  t : ThingM
  A1 : Option Addr
  n1 : Nat
  c1 : Nat
  A2 : Option Addr
  n2 : Nat
  c2 : Nat
def TV.cells (x : TV) : List Value := [.int .i64 x.t.kind, .int .i64 x.t.n, .int .i64 x.t.many, .slice x.A1 x.n1 x.c1, .slice x.A2 x.n2 x.c2]
theorem flat_get : ∀ (l : List TV) (j i : Nat) (x : TV) (u : Value), l[j]? = some x → x.cells[i]? = some u → (l.flatMap TV.cells)[j * 5 + i]? = some u
  | y :: l, 0, i, x, u, h, hu => by
    cases h
    rw [List.flatMap_cons, Nat.zero_mul, Nat.zero_add, List.getElem?_append_left (List.getElem?_eq_some_iff.1 hu).1]
    exact hu
  | y :: l, j + 1, i, x, u, h, hu => by
    have e : y.cells.length = 5 := rfl
    rw [List.flatMap_cons, List.getElem?_append_right (by rw [e]; omega), e, show (j + 1) * 5 + i - 5 = j * 5 + i by omega]
    exact flat_get l j i x u (by simpa using h) hu
  | [], _, _, _, _, h, _ => by simp at h
theorem ThingsAt.made (w : World) (t : Nat) (l : List TV) (h : ∀ x ∈ l, ThingCells w w.heap.size x.cells x.t) :
    ThingsAt (w.alloc (.cells (l.flatMap TV.cells).toArray t)) (w.alloc (.cells (l.flatMap TV.cells).toArray t)).heap.size (some ⟨w.heap.size, 0, none⟩) l.length (l.map (·.t)) := by
  refine ⟨by simp, fun _ => ⟨w.heap.size, 0, rfl, by simp, fun j a hj => ?_⟩⟩
  rw [List.getElem?_map, Option.map_eq_some_iff] at hj
  obtain ⟨x, hx, rfl⟩ := hj
  have hc := h x (List.mem_of_getElem? hx)
  refine ⟨x.cells, rfl, ?_, fun i u hu => ?_⟩
  · obtain ⟨A1, n1, c1, A2, n2, c2, h0, h1, h2, h3, ⟨h4, h5, h6⟩, ⟨h7, h8, h9⟩, h10⟩ := hc
    exact ⟨A1, n1, c1, A2, n2, c2, h0, h1, h2, h3, ⟨h4, h5, (h6.below (Grow.alloc w _)).more (by simp)⟩, ⟨h7, h8, (h9.below (Grow.alloc w _)).more (by simp)⟩, h10⟩
  · rw [(Blk.new w t _).cell, Nat.zero_add]
    rw [List.getElem?_toArray]
    exact flat_get l j i x u hx hu
/-- a thing of numbers alone -/
def numT (kind n many : Int) : TV := ⟨⟨kind, n, many, [], []⟩, none, 0, 0, none, 0, 0⟩
theorem numT_ok (w : World) (B : Nat) (kind n many : Int) (h1 : -9223372036854775808 ≤ kind ∧ kind ≤ 9223372036854775807) (h2 : -9223372036854775808 ≤ n ∧ n ≤ 9223372036854775807) (h3 : -9223372036854775808 ≤ many ∧ many ≤ 9223372036854775807) : ThingCells w B (numT kind n many).cells (numT kind n many).t :=
  ⟨none, 0, 0, none, 0, 0, rfl, h1, h2, h3, ⟨Nat.le_refl _, by omega, BytesAt.nil⟩, ⟨Nat.le_refl _, by omega, IntsAt.nil⟩, fun x h => by cases h⟩
/-- a thing that is a row -/
def rowT (row : List Int) (A : Option Addr) (n c : Nat) : TV := ⟨⟨3, 0, 0, [], row⟩, none, 0, 0, A, n, c⟩
theorem rowT_ok (w : World) (B : Nat) (row : List Int) (A : Option Addr) (n c : Nat) (h1 : n ≤ c) (h2 : c ≤ 1000) (hR : IntsAt w B A n row) (h3 : ∀ x ∈ row, -9223372036854775808 ≤ x ∧ x ≤ 9223372036854775807) : ThingCells w B (rowT row A n c).cells (rowT row A n c).t :=
  ⟨none, 0, 0, A, n, c, rfl, ⟨by show (_ : Int) ≤ 3; omega, by show (3 : Int) ≤ _; omega⟩, ⟨by show (_ : Int) ≤ 0; omega, by show (0 : Int) ≤ _; omega⟩, ⟨by show (_ : Int) ≤ 0; omega, by show (0 : Int) ≤ _; omega⟩, ⟨Nat.le_refl _, by omega, BytesAt.nil⟩, ⟨h1, by omega, hR⟩, h3⟩
end Go.Proofs.YtcjbeaohmgfgoaaGreat

namespace Go.Proofs.YtcjbeaohmgfgoaaGreat
open Go.RowKit WireM

theorem gets1 (W : World) (A : Option Addr) (n c : Nat) (b : List UInt8) (k1 n1 m1 : Int) (hb : BytesAt W W.heap.size A n b) (hn : n ≤ 2000000) (hnc : n ≤ c) (hc : c ≤ maxLen) (hr : (-9223372036854775808 ≤ k1 ∧ k1 ≤ 9223372036854775807) ∧ (-9223372036854775808 ≤ n1 ∧ n1 ≤ 9223372036854775807) ∧ (-9223372036854775808 ≤ m1 ∧ m1 ≤ 9223372036854775807)) :
    Calls Tryz.prog 8 #[.slice A n c, .slice (some ⟨W.heap.size, 0, none⟩) 1 1] (W.alloc (.cells #[.int .i64 k1, .int .i64 n1, .int .i64 m1, .slice none 0 0, .slice none 0 0] 27)) fun e w' => e = .returned (.bool true) ∧ Grow W w' := by
  obtain ⟨r0, r1, r2⟩ := hr
  have hT := ThingsAt.made W 27 [numT k1 n1 m1] fun x hx => by
    rcases List.mem_cons.1 hx with rfl | hx
    · exact numT_ok W W.heap.size _ _ _ r0 r1 r2
    cases hx
  refine (gets_any _ A _ n c 1 1 b _ ((hb.below (Grow.alloc W _)).more (by simp)) hn hnc hc hT (by omega)).mono ?_
  rintro e w' ⟨he, hg⟩
  exact ⟨he, (Grow.alloc W _).trans hg⟩
theorem gets2 (W : World) (A : Option Addr) (n c : Nat) (b : List UInt8) (k1 n1 m1 k2 n2 m2 : Int) (hb : BytesAt W W.heap.size A n b) (hn : n ≤ 2000000) (hnc : n ≤ c) (hc : c ≤ maxLen) (hr : (-9223372036854775808 ≤ k1 ∧ k1 ≤ 9223372036854775807) ∧ (-9223372036854775808 ≤ n1 ∧ n1 ≤ 9223372036854775807) ∧ (-9223372036854775808 ≤ m1 ∧ m1 ≤ 9223372036854775807) ∧ (-9223372036854775808 ≤ k2 ∧ k2 ≤ 9223372036854775807) ∧ (-9223372036854775808 ≤ n2 ∧ n2 ≤ 9223372036854775807) ∧ (-9223372036854775808 ≤ m2 ∧ m2 ≤ 9223372036854775807)) :
    Calls Tryz.prog 8 #[.slice A n c, .slice (some ⟨W.heap.size, 0, none⟩) 2 2] (W.alloc (.cells #[.int .i64 k1, .int .i64 n1, .int .i64 m1, .slice none 0 0, .slice none 0 0, .int .i64 k2, .int .i64 n2, .int .i64 m2, .slice none 0 0, .slice none 0 0] 27)) fun e w' => e = .returned (.bool true) ∧ Grow W w' := by
  obtain ⟨r0, r1, r2, r3, r4, r5⟩ := hr
  have hT := ThingsAt.made W 27 [numT k1 n1 m1, numT k2 n2 m2] fun x hx => by
    rcases List.mem_cons.1 hx with rfl | hx
    · exact numT_ok W W.heap.size _ _ _ r0 r1 r2
    rcases List.mem_cons.1 hx with rfl | hx
    · exact numT_ok W W.heap.size _ _ _ r3 r4 r5
    cases hx
  refine (gets_any _ A _ n c 2 2 b _ ((hb.below (Grow.alloc W _)).more (by simp)) hn hnc hc hT (by omega)).mono ?_
  rintro e w' ⟨he, hg⟩
  exact ⟨he, (Grow.alloc W _).trans hg⟩
theorem gets3 (W : World) (A : Option Addr) (n c : Nat) (b : List UInt8) (k1 n1 m1 k2 n2 m2 k3 n3 m3 : Int) (hb : BytesAt W W.heap.size A n b) (hn : n ≤ 2000000) (hnc : n ≤ c) (hc : c ≤ maxLen) (hr : (-9223372036854775808 ≤ k1 ∧ k1 ≤ 9223372036854775807) ∧ (-9223372036854775808 ≤ n1 ∧ n1 ≤ 9223372036854775807) ∧ (-9223372036854775808 ≤ m1 ∧ m1 ≤ 9223372036854775807) ∧ (-9223372036854775808 ≤ k2 ∧ k2 ≤ 9223372036854775807) ∧ (-9223372036854775808 ≤ n2 ∧ n2 ≤ 9223372036854775807) ∧ (-9223372036854775808 ≤ m2 ∧ m2 ≤ 9223372036854775807) ∧ (-9223372036854775808 ≤ k3 ∧ k3 ≤ 9223372036854775807) ∧ (-9223372036854775808 ≤ n3 ∧ n3 ≤ 9223372036854775807) ∧ (-9223372036854775808 ≤ m3 ∧ m3 ≤ 9223372036854775807)) :
    Calls Tryz.prog 8 #[.slice A n c, .slice (some ⟨W.heap.size, 0, none⟩) 3 3] (W.alloc (.cells #[.int .i64 k1, .int .i64 n1, .int .i64 m1, .slice none 0 0, .slice none 0 0, .int .i64 k2, .int .i64 n2, .int .i64 m2, .slice none 0 0, .slice none 0 0, .int .i64 k3, .int .i64 n3, .int .i64 m3, .slice none 0 0, .slice none 0 0] 27)) fun e w' => e = .returned (.bool true) ∧ Grow W w' := by
  obtain ⟨r0, r1, r2, r3, r4, r5, r6, r7, r8⟩ := hr
  have hT := ThingsAt.made W 27 [numT k1 n1 m1, numT k2 n2 m2, numT k3 n3 m3] fun x hx => by
    rcases List.mem_cons.1 hx with rfl | hx
    · exact numT_ok W W.heap.size _ _ _ r0 r1 r2
    rcases List.mem_cons.1 hx with rfl | hx
    · exact numT_ok W W.heap.size _ _ _ r3 r4 r5
    rcases List.mem_cons.1 hx with rfl | hx
    · exact numT_ok W W.heap.size _ _ _ r6 r7 r8
    cases hx
  refine (gets_any _ A _ n c 3 3 b _ ((hb.below (Grow.alloc W _)).more (by simp)) hn hnc hc hT (by omega)).mono ?_
  rintro e w' ⟨he, hg⟩
  exact ⟨he, (Grow.alloc W _).trans hg⟩
theorem gets4 (W : World) (A : Option Addr) (n c : Nat) (b : List UInt8) (k1 n1 m1 k2 n2 m2 k3 n3 m3 k4 n4 m4 : Int) (hb : BytesAt W W.heap.size A n b) (hn : n ≤ 2000000) (hnc : n ≤ c) (hc : c ≤ maxLen) (hr : (-9223372036854775808 ≤ k1 ∧ k1 ≤ 9223372036854775807) ∧ (-9223372036854775808 ≤ n1 ∧ n1 ≤ 9223372036854775807) ∧ (-9223372036854775808 ≤ m1 ∧ m1 ≤ 9223372036854775807) ∧ (-9223372036854775808 ≤ k2 ∧ k2 ≤ 9223372036854775807) ∧ (-9223372036854775808 ≤ n2 ∧ n2 ≤ 9223372036854775807) ∧ (-9223372036854775808 ≤ m2 ∧ m2 ≤ 9223372036854775807) ∧ (-9223372036854775808 ≤ k3 ∧ k3 ≤ 9223372036854775807) ∧ (-9223372036854775808 ≤ n3 ∧ n3 ≤ 9223372036854775807) ∧ (-9223372036854775808 ≤ m3 ∧ m3 ≤ 9223372036854775807) ∧ (-9223372036854775808 ≤ k4 ∧ k4 ≤ 9223372036854775807) ∧ (-9223372036854775808 ≤ n4 ∧ n4 ≤ 9223372036854775807) ∧ (-9223372036854775808 ≤ m4 ∧ m4 ≤ 9223372036854775807)) :
    Calls Tryz.prog 8 #[.slice A n c, .slice (some ⟨W.heap.size, 0, none⟩) 4 4] (W.alloc (.cells #[.int .i64 k1, .int .i64 n1, .int .i64 m1, .slice none 0 0, .slice none 0 0, .int .i64 k2, .int .i64 n2, .int .i64 m2, .slice none 0 0, .slice none 0 0, .int .i64 k3, .int .i64 n3, .int .i64 m3, .slice none 0 0, .slice none 0 0, .int .i64 k4, .int .i64 n4, .int .i64 m4, .slice none 0 0, .slice none 0 0] 27)) fun e w' => e = .returned (.bool true) ∧ Grow W w' := by
  obtain ⟨r0, r1, r2, r3, r4, r5, r6, r7, r8, r9, r10, r11⟩ := hr
  have hT := ThingsAt.made W 27 [numT k1 n1 m1, numT k2 n2 m2, numT k3 n3 m3, numT k4 n4 m4] fun x hx => by
    rcases List.mem_cons.1 hx with rfl | hx
    · exact numT_ok W W.heap.size _ _ _ r0 r1 r2
    rcases List.mem_cons.1 hx with rfl | hx
    · exact numT_ok W W.heap.size _ _ _ r3 r4 r5
    rcases List.mem_cons.1 hx with rfl | hx
    · exact numT_ok W W.heap.size _ _ _ r6 r7 r8
    rcases List.mem_cons.1 hx with rfl | hx
    · exact numT_ok W W.heap.size _ _ _ r9 r10 r11
    cases hx
  refine (gets_any _ A _ n c 4 4 b _ ((hb.below (Grow.alloc W _)).more (by simp)) hn hnc hc hT (by omega)).mono ?_
  rintro e w' ⟨he, hg⟩
  exact ⟨he, (Grow.alloc W _).trans hg⟩
theorem does3 (W : World) (g r : Nat) (n1 k3 n3 a b c : Int) (hg : g = W.heap.size) (hI : IntsAt W W.heap.size (some ⟨r, 0, none⟩) 3 [a, b, c]) (hr : (-9223372036854775808 ≤ n1 ∧ n1 ≤ 9223372036854775807) ∧ (-9223372036854775808 ≤ k3 ∧ k3 ≤ 9223372036854775807) ∧ (-9223372036854775808 ≤ n3 ∧ n3 ≤ 9223372036854775807) ∧ (-9223372036854775808 ≤ a ∧ a ≤ 9223372036854775807) ∧ (-9223372036854775808 ≤ b ∧ b ≤ 9223372036854775807) ∧ (-9223372036854775808 ≤ c ∧ c ≤ 9223372036854775807)) :
    Calls Tryz.prog 7 #[.slice (some ⟨g, 0, none⟩) 3 3] (W.alloc (.cells #[.int .i64 0, .int .i64 n1, .int .i64 0, .slice none 0 0, .slice none 0 0, .int .i64 3, .int .i64 0, .int .i64 0, .slice none 0 0, .slice (some ⟨r, 0, none⟩) 3 3, .int .i64 k3, .int .i64 n3, .int .i64 0, .slice none 0 0, .slice none 0 0] 27)) fun e w' => ∃ (r : Value) (L : List UInt8), e = .returned (.tuple #[r, .bool true]) ∧ w'.ownsRow W.heap.size 5 1 r L.length (L.map b8) ∧ L.length ≤ 1200000 ∧ Grow W w' := by
  subst hg
  obtain ⟨r0, r1, r2, r3, r4, r5⟩ := hr
  have hT := ThingsAt.made W 27 [numT 0 n1 0, rowT [a, b, c] (some ⟨r, 0, none⟩) 3 3, numT k3 n3 0] fun x hx => by
    rcases List.mem_cons.1 hx with rfl | hx
    · exact numT_ok W W.heap.size _ _ _ (by omega) r0 (by omega)
    rcases List.mem_cons.1 hx with rfl | hx
    · refine rowT_ok W W.heap.size _ _ 3 3 (by omega) (by omega) hI fun y hy => ?_
      rcases List.mem_cons.1 hy with rfl | hy
      · exact r3
      rcases List.mem_cons.1 hy with rfl | hy
      · exact r4
      rcases List.mem_cons.1 hy with rfl | hy
      · exact r5
      cases hy
    rcases List.mem_cons.1 hx with rfl | hx
    · exact numT_ok W W.heap.size _ _ _ r1 r2 (by omega)
    cases hx
  refine (does_any _ _ 3 3 _ hT (by simp [thingsTot, thingSize, numT, rowT])).mono ?_
  rintro e w' ⟨v, L, he, ho, hL, hg⟩
  exact ⟨v, L, he, own_base ho (by simp), hL, (Grow.alloc W _).trans hg⟩
theorem does2 (W : World) (g r q cq : Nat) (n2 : Int) (row : List Int) (hg : g = W.heap.size) (hq : q ≤ cq) (hcq : cq ≤ 1000) (hI : IntsAt W W.heap.size (some ⟨r, 0, none⟩) q row) (hrow : ∀ y ∈ row, -9223372036854775808 ≤ y ∧ y ≤ 9223372036854775807) (hr : (-9223372036854775808 ≤ n2 ∧ n2 ≤ 9223372036854775807)) :
    Calls Tryz.prog 7 #[.slice (some ⟨g, 0, none⟩) 2 2] (W.alloc (.cells #[.int .i64 3, .int .i64 0, .int .i64 0, .slice none 0 0, .slice (some ⟨r, 0, none⟩) q cq, .int .i64 0, .int .i64 n2, .int .i64 0, .slice none 0 0, .slice none 0 0] 27)) fun e w' => ∃ (r : Value) (L : List UInt8), e = .returned (.tuple #[r, .bool true]) ∧ w'.ownsRow W.heap.size 5 1 r L.length (L.map b8) ∧ L.length ≤ 1200000 ∧ Grow W w' := by
  subst hg
  have hl := hI.len
  have hT := ThingsAt.made W 27 [rowT row (some ⟨r, 0, none⟩) q cq, numT 0 n2 0] fun x hx => by
    rcases List.mem_cons.1 hx with rfl | hx
    · exact rowT_ok W W.heap.size _ _ q cq hq hcq hI hrow
    rcases List.mem_cons.1 hx with rfl | hx
    · exact numT_ok W W.heap.size _ _ _ (by omega) hr (by omega)
    cases hx
  refine (does_any _ _ 2 2 _ hT (by simp [thingsTot, thingSize, numT, rowT]; omega)).mono ?_
  rintro e w' ⟨v, L, he, ho, hL, hg⟩
  exact ⟨v, L, he, own_base ho (by simp), hL, (Grow.alloc W _).trans hg⟩
end Go.Proofs.YtcjbeaohmgfgoaaGreat

namespace Go.Proofs.YtcjbeaohmgfgoaaGreat
open Go.RowKit

section
variable {P : Program}
theorem wp_append_two {o : Oper} {a : Act} {w : World} {K : Act → World → Prop} {Q : Exit → Act → World → Prop} (s x : Operand) {t : TypeId}
    (ho : o.op = .call { callee := .builtin .append, args := #[s, x], argTypes := #[t, t] })
    {base e size bytes : Nat} {z : Value} (T : AppTy P t e z size bytes) {v : Value} {n : Nat} {xs : List Value} (hs : a.eval s = v) (hown : w.ownsRow base e size v n xs)
    {B : Nat} {A : Option Addr} {m c : Nat} {news : List Value} (hx : a.eval x = .slice A m c) (hr : ReadsAt w B size A m news) (h1 : ∀ u ∈ news, u.oneCell' = true)
    (h63 : n + m ≤ maxLen) (hbytes : (n + m) * bytes ≤ 140737488355328) (hbase : base ≤ w.heap.size)
    (h : ∀ v' w', w'.ownsRow base e size v' (n + m) (xs ++ news) → TwoWays w v n m v' w' → K (a.put o.dst v') w') : o.wp P a w K Q := by
  obtain ⟨v', w', hrun, h2, h3⟩ := run_append_two (P := P) w (ty := o.type) T hown (c := c) hr h1 h63 hbytes hbase
  unfold Oper.wp execOp
  simp only [ho, resolve, invoke, builtin, Sem.run_bind, Sem.run_pure, Result.andThen_ok, List.map_toArray, List.map_cons, List.map_nil, hs, hx, hrun]
  exact h v' w' h2 h3
end
/-- append onto a row without room leaves all that was -/
theorem two_grow {w w' : World} {base base' e g k : Nat} {v' : Value} {L : List Value} (h : TwoWays w (.slice (some ⟨g, 0, none⟩) 0 0) 0 k v' w') (ho : w.ownsRow base e 1 (.slice (some ⟨g, 0, none⟩) 0 0) 0 []) (ho' : w'.ownsRow base' e 1 v' (0 + k) L) : Grow w w' := by
  rcases h with ⟨g', cap, e1, rfl, hg⟩ | ⟨-, hg⟩
  · injection e1 with e1 _ e3
    injection e1 with e1
    injection e1 with e1
    subst e1 e3
    refine ⟨hg.os, hg.tape, hg.output, hg.size, fun j hj => ?_⟩
    by_cases hjg : j = g
    · subst hjg
      rcases ho.2 with ⟨h1, _⟩ | ⟨g1, c1, cur, h1, _, h3, _, _, h6, _⟩
      · cases h1
      rcases ho'.2 with ⟨h1', _⟩ | ⟨g2, c2, cur', h1', _, h3', _, _, h6', _⟩
      · cases h1'
      injection h1 with h1 _ hc1
      injection h1 with h1
      injection h1 with h1
      injection h1' with h1' _ hc2
      injection h1' with h1'
      injection h1' with h1'
      subst h1 hc1 h1' hc2
      have z1 : cur = #[] := Array.eq_empty_of_size_eq_zero (by simpa using h6)
      have z2 : cur' = #[] := Array.eq_empty_of_size_eq_zero (by simpa using h6')
      rw [h3, h3', z1, z2]
    · exact hg.block j hj (fun e => hjg (Option.some.inj e))
  · exact hg

/-- what the region leaves: some bytes of its own -/
def Bts (w0 : World) (v : Value) (w : World) : Prop := ∃ L : List UInt8, L.length ≤ 100 ∧ w.ownsRow w0.heap.size 5 1 v L.length (L.map b8) ∧ Grow w0 w
/-- the four bytes of the text -/
abbrev four : Array Value := #[.int .u8 0, .int .u8 1, .int .u8 32, .int .u8 127]
def F0 (B : Nat) : Fact := ⟨fun u w => ∃ m, u = .slice (some ⟨m, 0, none⟩) 0 0 ∧ w.ownsRow B 5 1 u 0 [], fun _ _ _ hg ⟨m, h1, h2⟩ => ⟨m, h1, own_below h2 hg⟩⟩
def F2 (B : Nat) (l : List UInt8) : Fact := ⟨fun u w => w.ownsRow B 5 1 u l.length (l.map b8), fun _ _ _ hg h => own_below h hg⟩
def F3 : Fact := ⟨fun u w => ∃ m, u = .slice (some ⟨m, 0, none⟩) 4 4 ∧ Blk w m 5 four, fun _ _ _ hg ⟨m, h1, h2⟩ => ⟨m, h1, h2.below hg h2.lt⟩⟩
def F5 (k : Nat) : Fact := ⟨fun u w => ∃ m, u = .pointer (some ⟨m, k, none⟩) ∧ Blk w m 5 four, fun _ _ _ hg ⟨m, h1, h2⟩ => ⟨m, h1, h2.below hg h2.lt⟩⟩
def F6 : Fact := ⟨fun u _ => ∃ y : UInt8, u = .int .u8 (y.toNat : Int), fun _ _ _ _ h => h⟩
def F7 : Fact := ⟨fun u w => ∃ (m : Nat) (y : UInt8), u = .slice (some ⟨m, 0, none⟩) 2 2 ∧ Blk w m 5 #[.int .u8 (y.toNat : Int), .int .u8 5], fun _ _ _ hg ⟨m, y, h1, h2⟩ => ⟨m, y, h1, h2.below hg h2.lt⟩⟩
/-- the chain of the second append -/
def btW (w0 : World) : List Value → World → Prop
  | [], w => Grow w0 w
  | [x], w => Bts w0 x w
  | [_, x], w => Bts w0 x w
  | _, _ => False
theorem Bts.grow {w0 w w2 : World} {v : Value} (h : Bts w0 v w) (hg : Grow w w2) : Bts w0 v w2 := by
  obtain ⟨L, h1, h2, h3⟩ := h
  exact ⟨L, h1, own_below h2 hg, h3.trans hg⟩
theorem btW.grow {w0 : World} : ∀ (vals : List Value) (w w2 : World), Grow w w2 → btW w0 vals w → btW w0 vals w2
  | [], _, _, hg, h => Grow.trans h hg
  | [_], _, _, hg, h => Bts.grow h hg
  | [_, _], _, _, hg, h => Bts.grow h hg
  | _ :: _ :: _ :: _, _, _, _, h => h
theorem four_byte (k : Nat) (hk : k < 4) : ∃ y : UInt8, four[k]? = some (.int .u8 (y.toNat : Int)) := by
  match k, hk with
  | 0, _ => exact ⟨0, rfl⟩
  | 1, _ => exact ⟨1, rfl⟩
  | 2, _ => exact ⟨32, rfl⟩
  | 3, _ => exact ⟨127, rfl⟩
end Go.Proofs.YtcjbeaohmgfgoaaGreat

namespace Go.Proofs.YtcjbeaohmgfgoaaGreat
open Go.RowKit

set_option maxRecDepth 100000 in
theorem WNumber_nil (w : World) (A : Option Addr) (n c : Nat) : Calls Tryz.prog 9 #[.pointer none, .slice A n c] w fun e w' => e = .returned (.tuple #[]) ∧ Grow w w' := by
  go_enter Tryz.func9, Tryz.ntmps9
  go_wp2
  exact bodyPost_ret0 rfl rfl ⟨rfl, Grow.alloc _ _⟩
set_option maxRecDepth 100000 in
theorem WFixed_nil (w : World) (x : Int) : Calls Tryz.prog 10 #[.pointer none, .int .u32 x] w fun e w' => e = .returned (.tuple #[]) ∧ w = w' := by
  go_enter Tryz.func10, Tryz.ntmps10
  go_wp2
  exact bodyPost_ret0 rfl rfl ⟨rfl, rfl⟩
set_option maxRecDepth 100000 in
theorem WRising_nil (w : World) (A : Option Addr) (n c : Nat) : Calls Tryz.prog 12 #[.pointer none, .slice A n c] w fun e w' => e = .returned (.tuple #[]) ∧ w = w' := by
  go_enter Tryz.func12, Tryz.ntmps12
  go_wp2
  exact bodyPost_ret0 rfl rfl ⟨rfl, rfl⟩
set_option maxRecDepth 100000 in
theorem WBytes_nil (w : World) : Calls Tryz.prog 13 #[.pointer none] w fun e w' => e = .returned (.slice none 0 0) ∧ w = w' := by
  go_enter Tryz.func13, Tryz.ntmps13
  go_wp2
  go_ret
  exact ⟨rfl, rfl⟩
set_option maxRecDepth 100000 in
theorem RNumber_nil (w : World) (x : Int) : Calls Tryz.prog 14 #[.pointer none, .int .i64 x] w fun e w' => e = .returned (.int .i64 0) ∧ w = w' := by
  go_enter Tryz.func14, Tryz.ntmps14
  go_wp2
  go_ret
  exact ⟨rfl, rfl⟩
set_option maxRecDepth 100000 in
theorem RFixed_nil (w : World) : Calls Tryz.prog 15 #[.pointer none] w fun e w' => e = .returned (.int .u32 0) ∧ w = w' := by
  go_enter Tryz.func15, Tryz.ntmps15
  go_wp2
  go_ret
  exact ⟨rfl, rfl⟩
set_option maxRecDepth 100000 in
theorem RText_nil (w : World) (x : Int) : Calls Tryz.prog 16 #[.pointer none, .int .i64 x] w fun e w' => e = .returned (.slice none 0 0) ∧ w = w' := by
  go_enter Tryz.func16, Tryz.ntmps16
  go_wp2
  go_ret
  exact ⟨rfl, rfl⟩
set_option maxRecDepth 100000 in
theorem RRising_nil (w : World) (x y : Int) : Calls Tryz.prog 17 #[.pointer none, .int .i64 x, .int .i64 y] w fun e w' => e = .returned (.slice none 0 0) ∧ w = w' := by
  go_enter Tryz.func17, Tryz.ntmps17
  go_wp2_with fail
  go_step3
  go_wp2_with fail
  (try rw [Exit.noGoto_ret])
  go_ret
  exact ⟨rfl, rfl⟩
set_option maxRecDepth 100000 in
theorem RLeft_nil (w : World) : Calls Tryz.prog 18 #[.pointer none] w fun e w' => e = .returned (.int .i64 0) ∧ w = w' := by
  go_enter Tryz.func18, Tryz.ntmps18
  go_wp2
  go_ret
  exact ⟨rfl, rfl⟩
set_option maxRecDepth 100000 in
theorem ROK_nil (w : World) : Calls Tryz.prog 19 #[.pointer none] w fun e w' => e = .returned (.bool false) ∧ w = w' := by
  go_enter Tryz.func19, Tryz.ntmps19
  go_wp2
  go_ret
  exact ⟨rfl, rfl⟩
set_option maxRecDepth 100000 in
theorem WText_nil (w : World) (m : Nat) (A : Option Addr) (n c : Nat) (hc : w.cell? ⟨m, 0, none⟩ = some (.slice A n c)) : Calls Tryz.prog 11 #[.pointer none, .slice (some ⟨m, 0, none⟩) 1 1] w fun e w' => e = .returned (.tuple #[]) ∧ Grow w w' := by
  go_enter Tryz.func11, Tryz.ntmps11
  go_wp2
  go_loopw [8] (fun v8 wr => (v8 = .int .i64 0 ∧ wr = w) ∨ (v8 = .int .i64 1 ∧ Grow w wr)) (fun v8 _ => 1 - (intOf v8).toNat)
  case atStart => exact Or.inl ⟨rfl, rfl⟩
  case round =>
    rcases hrel with ⟨rfl, rfl⟩ | ⟨rfl, hg⟩
    · go_wp2_with (go_at_call 9; refine (WNumber_nil _ _ _ _).mono ?_; rintro e w2 ⟨rfl, hg2⟩)
      go_roundw
      case rel => exact Or.inr ⟨by go_num, (Grow.alloc _ _).trans hg2⟩
      case measure => simp [intOf]
    · go_wp2
      (try simp only [Exit.inBlock, Exit.then])
      exact Go.Great.bodyPost_end0 rfl rfl ⟨rfl, hg⟩
end Go.Proofs.YtcjbeaohmgfgoaaGreat
