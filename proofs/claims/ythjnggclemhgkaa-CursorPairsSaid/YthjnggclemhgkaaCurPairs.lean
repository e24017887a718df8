/-
  The walk of mudlarklaw20.CursorPairs: each two rows of some of four numbers.
-/
import Derived.Deep.CutBlock
import Derived.Deep.CutRange
import Derived.Deep.DeepCutAuto
import Derived.Test.YthjnggclemhgkaaCurMoves
namespace Go.Proofs.Ythjnggclemhgkaa
open Go.RowKit CurM
set_option linter.unusedVariables false

/-- four numbers, the least and the greatest among them -/
def endsL : List Int := [-9223372036854775808, -1, 0, 9223372036854775807]
/-- two rows that are made, side by side -/
structure PRows (W1 : World) (na nb : Nat) (x3 x4 : Value) (la lb : List Int) (wr : World) : Prop where
  lenA : la.length = na
  lenB : lb.length = nb
  own3 : wr.ownsRow W1.heap.size 3 1 x3 na (la.map i64v)
  own4 : wr.ownsRow W1.heap.size 3 1 x4 nb (lb.map i64v)
  ne : ∀ j, x3.ownBlock = some j → x4.ownBlock ≠ some j
  wa : ∀ x ∈ la, W64 x
  wb : ∀ x ∈ lb, W64 x
  grow : Grow W1 wr
section
variable {W1 wr W2 W3 : World} {na nb : Nat} {x3 x4 v : Value} {la lb : List Int} {x : Int}
theorem PRows.push3 (h : PRows W1 na nb x3 x4 la lb wr) (hx : W64 x) (hg : Grow wr W2) (ho : W3.ownsRow W1.heap.size 3 1 v (na + 1) (la.map i64v ++ [.int .i64 x])) (hgr : W2.grownBy W3 x3.ownBlock) (hat : v.ownBlock = x3.ownBlock ∨ v.ownBlock = some W2.heap.size) : PRows W1 (na + 1) nb v x4 (la ++ [x]) lb W3 := by
  have hk : Keep (fun j => x3.ownBlock = some j) wr W3 := (Keep.grow hg).trans' (Keep.grown hgr)
  refine ⟨by simp [h.lenA], h.lenB, by rw [List.map_append]; exact ho, hk.own h.own4 fun b hb h3 => h.ne b h3 hb, fun j hj h4 => ?_, fun y hy => ?_, h.wb, Below.trans h.grow (hk.below (fun j hj => (h.own3.lt j hj).1) h.grow.size)⟩
  · rcases hat with h1 | h1
    · rw [h1] at hj
      exact h.ne j hj h4
    · rw [h1] at hj
      injection hj with hj
      have := (h.own4.lt j h4).2
      have := hg.size
      omega
  · rcases List.mem_append.1 hy with h1 | h1
    · exact h.wa y h1
    · have : y = x := by simpa using h1
      rw [this]
      exact hx
theorem PRows.push4 (h : PRows W1 na nb x3 x4 la lb wr) (hx : W64 x) (hg : Grow wr W2) (ho : W3.ownsRow W1.heap.size 3 1 v (nb + 1) (lb.map i64v ++ [.int .i64 x])) (hgr : W2.grownBy W3 x4.ownBlock) (hat : v.ownBlock = x4.ownBlock ∨ v.ownBlock = some W2.heap.size) : PRows W1 na (nb + 1) x3 v la (lb ++ [x]) W3 := by
  have hk : Keep (fun j => x4.ownBlock = some j) wr W3 := (Keep.grow hg).trans' (Keep.grown hgr)
  refine ⟨h.lenA, by simp [h.lenB], hk.own h.own3 fun b hb h3 => h.ne b hb h3, by rw [List.map_append]; exact ho, fun j hj h4 => ?_, h.wa, fun y hy => ?_, Below.trans h.grow (hk.below (fun j hj => (h.own4.lt j hj).1) h.grow.size)⟩
  · rcases hat with h1 | h1
    · rw [h1] at h4
      exact h.ne j hj h4
    · rw [h1] at h4
      injection h4 with h4
      have := (h.own3.lt j hj).2
      have := hg.size
      omega
  · rcases List.mem_append.1 hy with h1 | h1
    · exact h.wb y h1
    · have : y = x := by simpa using h1
      rw [this]
      exact hx
end
/-- blocks of type T from B0 on may turn, no others -/
structure KeepTy (B0 : Nat) (T : TypeId) (w w' : World) : Prop where
  os : w'.os = w.os
  tape : w'.tape = w.tape
  output : w'.output = w.output
  size : w.heap.size ≤ w'.heap.size
  block : ∀ k o, w.heap[k]? = some o → (k < B0 ∨ ∀ cs, o ≠ .cells cs T (0, 0)) → w'.heap[k]? = some o
section
variable {B0 : Nat} {T : TypeId} {w w1 w2 : World}
theorem KeepTy.refl (B0 : Nat) (T : TypeId) (w : World) : KeepTy B0 T w w := ⟨rfl, rfl, rfl, Nat.le_refl _, fun _ _ h _ => h⟩
theorem keepTy_trans : ∀ x y z, KeepTy B0 T x y → KeepTy B0 T y z → KeepTy B0 T x z := fun _ _ _ h k => ⟨k.os.trans h.os, k.tape.trans h.tape, k.output.trans h.output, Nat.le_trans h.size k.size, fun j o hj hp => k.block j o (h.block j o hj hp) hp⟩
theorem keepTy_grow : ∀ x y, Grow x y → KeepTy B0 T x y := fun _ _ h => ⟨h.os, h.tape, h.output, h.size, fun j _ hj _ => (h.block j (Array.getElem?_eq_some_iff.1 hj).1).trans hj⟩
theorem KeepTy.ofOwn {s n : Nat} {v : Value} {xs : List Value} (hg : w.grownBy w1 v.ownBlock) (ho : w.ownsRow B0 T s v n xs) : KeepTy B0 T w w1 := ⟨hg.os, hg.tape, hg.output, hg.size, fun j o hj hp => (hg.block j (Array.getElem?_eq_some_iff.1 hj).1 fun e => by
  obtain ⟨cs, q⟩ := own_obj ho e.symm
  rw [q] at hj
  cases hj
  rcases hp with h | h
  · have := (ho.lt j e.symm).1
    omega
  · exact h cs rfl).trans hj⟩
theorem KeepTy.below (h : KeepTy B0 T w w1) (hB : B0 ≤ w.heap.size) : Below B0 w w1 := ⟨h.os, h.tape, h.output, h.size, fun k hk => by
  have hl : k < w.heap.size := by omega
  rw [h.block k _ (Array.getElem?_eq_getElem hl) (Or.inl hk), Array.getElem?_eq_getElem hl]⟩
theorem KeepTy.blk (h : KeepTy B0 T w w1) {m t : Nat} {cs : Array Value} (hb : Blk w m t cs) (ht : t ≠ T) : Blk w1 m t cs := h.block m _ hb (Or.inr fun cs e => by injection e with _ e; exact ht e)
end
/-- a slice of a block that was just made -/
def FactOn.newB (B0 n : Nat) (t : TypeId) (ht : t ≠ 3) (cs : Array Value) : FactOn (KeepTy B0 3) := ⟨fun u w => ∃ g, u = .slice (some ⟨g, 0, none⟩) n n ∧ B0 ≤ g ∧ Blk w g t cs, fun _ _ _ hk ⟨g, h1, h2, h3⟩ => ⟨g, h1, h2, hk.blk h3 ht⟩⟩
/-- what stands amid the operations of the two calls -/
def prW (B0 na nb : Nat) (la lb : List Int) (wh : Int) (cs : Array Value) : List Value → World → Prop
  | [], _ => True
  | [x], _ => x = .bool true
  | [x, e], w => x = .bool true ∧ w.ownsRow B0 3 1 e 0 []
  | [x, _, r], w => x = .bool true ∧ w.ownsRow B0 3 1 r nb (lb.map i64v)
  | [x, _, _, r], w => x = .bool true ∧ w.ownsRow B0 3 1 r (nb + na) ((lb ++ la).map i64v)
  | [x, _, _, _, t], w => x = .bool true ∧ ∃ A c g, t = .agg #[.int .i64 wh, .slice A (nb + na) c, .slice none 0 0, .slice (some ⟨g, 0, none⟩) 2 2] ∧ IntsAt w w.heap.size A (nb + na) (lb ++ la) ∧ B0 ≤ g ∧ Blk w g 25 cs
  | [x, _, _, _, _, y], _ => x = .bool true ∧ y = .bool true
  | _, _ => False
theorem prW.grow {B0 na nb : Nat} {la lb : List Int} {wh : Int} {cs : Array Value} : ∀ (vals : List Value) (w w2 : World), Grow w w2 → prW B0 na nb la lb wh cs vals w → prW B0 na nb la lb wh cs vals w2
  | [], _, _, _, _ => trivial
  | [_], _, _, _, h => h
  | [_, _], _, _, hg, h => ⟨h.1, own_below h.2 hg⟩
  | [_, _, _], _, _, hg, h => ⟨h.1, own_below h.2 hg⟩
  | [_, _, _, _], _, _, hg, h => ⟨h.1, own_below h.2 hg⟩
  | [_, _, _, _, _], _, _, hg, ⟨h0, A, c, g, h1, h2, h3, h4⟩ => ⟨h0, A, c, g, h1, (h2.below hg).more hg.size, h3, Grow.blk hg h4⟩
  | [_, _, _, _, _, _], _, _, _, h => h
  | _ :: _ :: _ :: _ :: _ :: _ :: _ :: _, _, _, _, h => h.elim
theorem prW.x {B0 na nb : Nat} {la lb : List Int} {wh : Int} {cs : Array Value} {w : World} {u : Value} : ∀ {vals : List Value}, prW B0 na nb la lb wh cs vals w → vals[0]? = some u → u = .bool true
  | [], _, h => by simp at h
  | [x], h, e => by injection e with e; rw [← e]; exact h
  | [x, _], h, e => by injection e with e; rw [← e]; exact h.1
  | [x, _, _], h, e => by injection e with e; rw [← e]; exact h.1
  | [x, _, _, _], h, e => by injection e with e; rw [← e]; exact h.1
  | [x, _, _, _, _], h, e => by injection e with e; rw [← e]; exact h.1
  | [x, _, _, _, _, _], h, e => by injection e with e; rw [← e]; exact h.1
  | _ :: _ :: _ :: _ :: _ :: _ :: _ :: _, h, _ => h.elim
theorem prW.y {B0 na nb : Nat} {la lb : List Int} {wh : Int} {cs : Array Value} {w : World} {u : Value} : ∀ {vals : List Value}, prW B0 na nb la lb wh cs vals w → vals[5]? = some u → u = .bool true
  | [], _, e => by simp at e
  | [_], _, e => by simp at e
  | [_, _], _, e => by simp at e
  | [_, _, _], _, e => by simp at e
  | [_, _, _, _], _, e => by simp at e
  | [_, _, _, _, _], _, e => by simp at e
  | [_, _, _, _, _, y], h, e => by injection e with e; rw [← e]; exact h.2
  | _ :: _ :: _ :: _ :: _ :: _ :: _ :: _, h, _ => h.elim
theorem plen3 {α : Type} {l : List α} (h : l.length = 3) : ∃ a b c, l = [a, b, c] := by
  match l, h with
  | [a, b, c], _ => exact ⟨a, b, c, rfl⟩
theorem plen5 {α : Type} {l : List α} (h : l.length = 5) : ∃ a b c d e, l = [a, b, c, d, e] := by
  match l, h with
  | [a, b, c, d, e], _ => exact ⟨a, b, c, d, e, rfl⟩
/-- a tree without kids -/
theorem leaf_cells {w : World} {B n c : Nat} {A : Option Addr} {l : List Int} {x : Int} (d : Nat) (h : IntsAt w B A n l) (hn : n ≤ 1000) (hw : ∀ y ∈ l, W64 y) (hx : W64 x) : TreeCells (d + 1) w B [.int .i64 x, .slice A n c, .slice none 0 0, .slice none 0 0] (.mk x l [] []) :=
  ⟨A, n, c, none, 0, 0, none, 0, 0, rfl, by omega, by omega, by omega, h, IntsAt.nil, ⟨rfl, fun h => absurd h (by omega)⟩, hx, hw, fun y hy => by simp [TreeM.skip] at hy⟩
/-- trees that were just written out -/
theorem TreesAt.lit {w : World} {B d g m : Nat} {ts : List TreeM} {css : List (List Value)} (hb : Blk w g 25 css.flatten.toArray) (hB : g < B) (hl : css.length = ts.length) (h4 : ∀ cs ∈ css, cs.length = 4) (h : ∀ (j : Nat) (cs : List Value) (t : TreeM), css[j]? = some cs → ts[j]? = some t → TreeCells d w B cs t) (hm : m ≤ ts.length) : TreesAt d w B (some ⟨g, 0, none⟩) m (ts.take m) :=
  ⟨by rw [List.length_take]; omega, fun _ => ⟨g, 0, rfl, hB, fun j t hj => by
    have hjm : j < m := by
      have := (List.getElem?_eq_some_iff.1 hj).1
      rw [List.length_take] at this
      omega
    rw [List.getElem?_take, if_pos hjm] at hj
    have hjc : j < css.length := by have := (List.getElem?_eq_some_iff.1 hj).1; omega
    refine ⟨css[j], h4 _ (List.getElem_mem hjc), h j _ t (List.getElem?_eq_getElem hjc) hj, fun i u hu => ?_⟩
    rw [hb.cell, Nat.zero_add]
    have hfl : ∀ (css : List (List Value)) (j : Nat) (cs : List Value) (i : Nat) (u : Value), (∀ cs ∈ css, cs.length = 4) → css[j]? = some cs → cs[i]? = some u → css.flatten[j * 4 + i]? = some u := by
      intro css
      induction css with
      | nil => intro j cs i u _ h; simp at h
      | cons c css ih =>
        intro j cs i u h4 hj hi
        have hc := h4 c (by simp)
        rw [List.flatten_cons]
        cases j with
        | zero =>
          injection hj with hj
          subst hj
          have hil := (List.getElem?_eq_some_iff.1 hi).1
          rw [List.getElem?_append_left (by omega), Nat.zero_mul, Nat.zero_add]
          exact hi
        | succ j =>
          rw [List.getElem?_append_right (by omega), show (j + 1) * 4 + i - c.length = j * 4 + i by omega]
          exact ih j cs i u (fun x hx => h4 x (by simp [hx])) (by simpa using hj) hi
    have := hfl css j css[j] i u h4 (List.getElem?_eq_getElem hjc) hu
    simpa using this⟩⟩
theorem MovesAt.lit {w : World} {B g n : Nat} {ms : List (Int × Int)} (hb : Blk w g 36 (ms.flatMap fun m => [i64v m.1, i64v m.2]).toArray) (hB : g < B) (hw : ∀ m ∈ ms, W64 m.1 ∧ W64 m.2) (hn : ms.length = n) : MovesAt w B (some ⟨g, 0, none⟩) n ms :=
  ⟨hn, fun _ => ⟨g, 0, rfl, hB, fun j m hj => by
    refine ⟨[.int .i64 m.1, .int .i64 m.2], rfl, ⟨rfl, hw m (List.mem_of_getElem? hj)⟩, fun i u hu => ?_⟩
    rw [hb.cell, Nat.zero_add]
    have hfl : ∀ (ms : List (Int × Int)) (j : Nat) (m : Int × Int) (i : Nat) (u : Value), ms[j]? = some m → [i64v m.1, i64v m.2][i]? = some u → (ms.flatMap fun m => [i64v m.1, i64v m.2])[j * 2 + i]? = some u := by
      intro ms
      induction ms with
      | nil => intro j m i u h; simp at h
      | cons c ms ih =>
        intro j m i u hj hi
        rw [List.flatMap_cons]
        cases j with
        | zero =>
          injection hj with hj
          subst hj
          have hil := (List.getElem?_eq_some_iff.1 hi).1
          rw [List.getElem?_append_left (by simpa using hil), Nat.zero_mul, Nat.zero_add]
          exact hi
        | succ j =>
          rw [List.getElem?_append_right (by simp; omega), show (j + 1) * 2 + i - [i64v c.1, i64v c.2].length = j * 2 + i by simp; omega]
          exact ih j m i u (by simpa using hj) hi
    have := hfl ms j m i u hj hu
    simpa using this⟩⟩
set_option maxRecDepth 100000 in
set_option maxHeartbeats 8000000 in
theorem pairs_walk (w : World) : Calls Try.prog 4 #[] w (MovesTo w) := by
  have intsTy : AppTy Try.prog 22 3 (.int .i64 0) 1 8 := AppTy.mk' Try.underlying22 (by kernel_rfl) rfl (by decide)
  obtain ⟨W0, hW0⟩ : ∃ W0, w.alloc (.cells #[.int .i64 (-9223372036854775808), .int .i64 (-1), .int .i64 0, .int .i64 9223372036854775807] 3) = W0 := ⟨_, rfl⟩
  have hg0 : Grow w W0 := by rw [← hW0]; exact Grow.alloc _ _
  have hb0 : Blk W0 w.heap.size 3 (endsL.map i64v).toArray := by rw [← hW0]; exact Blk.new _ _ _
  have Hg0 := Lib.hid hg0
  have Hb0 := Lib.hid hb0
  clear hg0 hb0
  go_enter Try.func4, Try.ntmps4
  go_wp2
  try rw [hW0]
  clear hW0
  go_loopw [2] (fun v2 wr => ∃ n : Nat, n ≤ 256 ∧ v2 = .int .i64 (n : Int) ∧ Hid (Grow W0 wr)) (fun v2 _ => 256 - (intOf v2).toNat)
  case atStart => exact ⟨0, by omega, rfl, Grow.refl _⟩
  case round =>
    obtain ⟨n, hn, rfl, hg⟩ := hrel
    by_cases hlt : n < 256
    · have d1 : decide ((n : Int) < 256) = true := decide_eq_true (by omega)
      have hn0 : (0 : Int) ≤ n := by omega
      obtain ⟨W1, hW1⟩ : ∃ W1 : World, W1 = wr := ⟨_, rfl⟩
      have Hb1 := Lib.hid (Grow.blk hg.out Hb0.out)
      rw [← hW1] at Hb1 hg
      have HW1 := Lib.hid hW1
      clear hW1
      go_wp2
      go_loopw [3, 4, 5] (fun v3 v4 v5 wr => ∃ (k na nb : Nat) (la lb : List Int) (x3 x4 : Value), k ≤ 4 ∧ v5 = .int .i64 (k : Int) ∧ x3 = v3 ∧ x4 = v4 ∧ na ≤ k ∧ nb ≤ k ∧ Hid (PRows W1 na nb x3 x4 la lb wr)) (fun _ _ v5 _ => 4 - (intOf v5).toNat)
      case atStart => exact ⟨0, 0, 0, [], [], _, _, by omega, rfl, rfl, rfl, Nat.le_refl _, Nat.le_refl _, rfl, rfl, World.ownsRow_nil _ _ _ _, World.ownsRow_nil _ _ _ _, fun j h => by simp [Value.ownBlock] at h, fun x h => by simp at h, fun x h => by simp at h, by rw [HW1.out]; exact Grow.refl _⟩
      case round =>
        obtain ⟨k, na, nb, la, lb, x3, x4, hk, rfl, rfl, rfl, hna, hnb, HP⟩ := hrel
        have hbe := Grow.blk HP.out.grow Hb1.out
        by_cases hlt2 : k < 4
        · have d2 : decide ((k : Int) < 4) = true := decide_eq_true (by omega)
          have hk0 : (0 : Int) ≤ k := by omega
          have hk4 : (k : Int) < 4 := by omega
          obtain ⟨x, hx⟩ : ∃ x, endsL[k]? = some x := ⟨_, List.getElem?_eq_getElem (by show k < 4; omega)⟩
          have hx64 : W64 x := by
            have hm := List.mem_of_getElem? hx
            simp only [endsL, List.mem_cons, List.not_mem_nil, or_false] at hm
            unfold W64
            omega
          have Hx64 := Lib.hid hx64
          have Hcx := Lib.hid (show ∀ W, Grow W1 W → W.cell? ⟨w.heap.size, k, none⟩ = some (.int .i64 x) from fun W hg9 => by
            rw [(Grow.blk hg9 Hb1.out).cell k]
            simp [hx, i64v])
          have G1 := Lib.hid (show na + 1 ≤ maxLen by unfold maxLen; omega)
          have G2 := Lib.hid (show (na + 1) * 8 ≤ 140737488355328 by omega)
          have G3 := Lib.hid (show nb + 1 ≤ maxLen by unfold maxLen; omega)
          have G4 := Lib.hid (show (nb + 1) * 8 ≤ 140737488355328 by omega)
          have hcx := Hcx.out wr HP.out.grow
          clear hx hx64 hbe
          cases hba : (bits BinOp.and IntKind.i64 ((n : Int) / 2 ^ k) 1 == 1) <;> cases hbb : (bits BinOp.and IntKind.i64 ((n : Int) / 2 ^ (k + 4)) 1 == 1)
          all_goals
            go_wp2_with (at_builtin; first | (refine wpList_append_reads _ rfl (.tmp 23) (.tmp 28) rfl intsTy rfl (own_below HP.out.own3 (Grow.alloc _ (.cells #[.int .i64 x] 3))) rfl (ReadsAt.made1 _ 3 (.int .i64 x)) (by simp [Value.oneCell']) G1.out G2.out (Nat.le_trans HP.out.grow.size (Grow.alloc _ _).size) ?_; intro v' w' ho' hgr' hat'; have HPn := Lib.hid (HP.out.push3 Hx64.out (Grow.alloc _ _) ho' hgr' hat'); clear ho' hgr' hat' hcx; have hcx : w'.cell? ⟨w.heap.size, k, none⟩ = some (.int .i64 x) := Hcx.out w' HPn.out.grow; clear HP; have HP := HPn; clear HPn) | (refine wpList_append_reads _ rfl (.tmp 36) (.tmp 41) rfl intsTy rfl (own_below HP.out.own4 (Grow.alloc _ (.cells #[.int .i64 x] 3))) rfl (ReadsAt.made1 _ 3 (.int .i64 x)) (by simp [Value.oneCell']) G3.out G4.out (Nat.le_trans HP.out.grow.size (Grow.alloc _ _).size) ?_; intro v' w' ho' hgr' hat'; have HPn := Lib.hid (HP.out.push4 Hx64.out (Grow.alloc _ _) ho' hgr' hat'); clear ho' hgr' hat'; clear HP; have HP := HPn; clear HPn))
            go_roundw
            case rel => exact ⟨k + 1, _, _, _, _, _, _, by omega, by go_num, rfl, rfl, by omega, by omega, HP⟩
            case measure => simp [intOf]; omega
        · obtain rfl : k = 4 := by omega
          obtain ⟨A3, c3, e3, -, -, hr3⟩ := own_reads HP.out.own3
          subst e3
          obtain ⟨A4, c4, e4, -, -, hr4⟩ := own_reads HP.out.own4
          subst e4
          have hrE : IntsAt wr wr.heap.size (some ⟨w.heap.size, 0, none⟩) 4 endsL := IntsAt.of_row (l := endsL) hbe.cells hbe.lt
          have Hbe := Lib.hid hbe
          have Hr3 := Lib.hid (show IntsAt wr wr.heap.size A3 na la from hr3)
          have Hr4 := Lib.hid (show IntsAt wr wr.heap.size A4 nb lb from hr4)
          have HrE := Lib.hid hrE
          obtain ⟨m, hm⟩ : ∃ m : Nat, (2 : Int) + (n : Int) % 2 = (m : Int) := ⟨((2 : Int) + (n : Int) % 2).toNat, by omega⟩
          have hm3 : m ≤ 3 := by omega
          have treesTy : AppTy Try.prog 23 25 (.agg #[.int .i64 0, .slice none 0 0, .slice none 0 0, .slice none 0 0]) 4 80 := AppTy.mk' Try.underlying23 (by kernel_rfl) rfl (by decide)
          have hcut := fun W => run_cut_head treesTy (some ⟨wr.heap.size, 0, none⟩) 3 3 m .i64 (m : Int) rfl hm3 W
          clear hbe hr3 hr4 hrE
          go_wp2_with fail
          obtain ⟨T2, hT2⟩ : ∃ T2, wr.heap.size = T2 := ⟨_, rfl⟩
          obtain ⟨W2, hW2⟩ : ∃ W2, wr.alloc (.cells #[.int .i64 0, .slice A3 na c3, .slice none 0 0, .slice none 0 0, .int .i64 0, .slice A4 nb c4, .slice none 0 0, .slice none 0 0, .int .i64 0, .slice (some ⟨w.heap.size, 0, none⟩) 4 4, .slice none 0 0, .slice none 0 0] 25) = W2 := ⟨_, rfl⟩
          have hg22 : Grow wr W2 := by rw [← hW2]; exact Grow.alloc _ _
          have hbT : Blk W2 T2 25 #[.int .i64 0, .slice A3 na c3, .slice none 0 0, .slice none 0 0, .int .i64 0, .slice A4 nb c4, .slice none 0 0, .slice none 0 0, .int .i64 0, .slice (some ⟨w.heap.size, 0, none⟩) 4 4, .slice none 0 0, .slice none 0 0] := by rw [← hW2, ← hT2]; exact Blk.new _ _ _
          have i3 : IntsAt W2 W2.heap.size A3 na la := (Hr3.out.below hg22).more hg22.size
          have i4 : IntsAt W2 W2.heap.size A4 nb lb := (Hr4.out.below hg22).more hg22.size
          have iE : IntsAt W2 W2.heap.size (some ⟨w.heap.size, 0, none⟩) 4 endsL := (HrE.out.below hg22).more hg22.size
          have hE64 : ∀ y ∈ endsL, W64 y := fun y hy => by
            simp only [endsL, List.mem_cons, List.not_mem_nil, or_false] at hy
            unfold W64
            omega
          have w0 : W64 0 := by unfold W64; omega
          have HkT := Lib.hid (show ∀ d, TreesAt (d + 1) W2 W2.heap.size (some ⟨T2, 0, none⟩) m ([TreeM.mk 0 la [] [], .mk 0 lb [] [], .mk 0 endsL [] []].take m) from fun d =>
            TreesAt.lit (css := [[.int .i64 0, .slice A3 na c3, .slice none 0 0, .slice none 0 0], [.int .i64 0, .slice A4 nb c4, .slice none 0 0, .slice none 0 0], [.int .i64 0, .slice (some ⟨w.heap.size, 0, none⟩) 4 4, .slice none 0 0, .slice none 0 0]]) hbT hbT.lt rfl (by simp) (fun j cs t hj ht => by
              match j, hj, ht with
              | 0, hj, ht => cases hj; cases ht; exact leaf_cells d i3 (by omega) HP.out.wa w0
              | 1, hj, ht => cases hj; cases ht; exact leaf_cells d i4 (by omega) HP.out.wb w0
              | 2, hj, ht => cases hj; cases ht; exact leaf_cells d iE (by omega) hE64 w0) hm3)
          have HgW2 := Lib.hid (HP.out.grow.trans hg22)
          have I3 := Lib.hid i3
          have I4 := Lib.hid i4
          have HbE := Lib.hid (Grow.blk hg22 Hbe.out)
          have HE64 := Lib.hid hE64
          have HW2 := Lib.hid hW2
          rw [hT2]
          clear hW2 hT2 hg22 hbT i3 i4 iE hE64 w0 hcut
          go_loopw [7] (fun v7 wq => ∃ k : Nat, k ≤ 24 ∧ v7 = .int .i64 (k : Int) ∧ Hid (Grow W2 wq)) (fun v7 _ => 24 - (intOf v7).toNat)
          case atStart => exact ⟨0, by omega, rfl, by rw [HW2.out]; exact Grow.refl _⟩
          case round =>
            obtain ⟨k, hk, rfl, hgq⟩ := hrel
            by_cases hlt3 : k < 24
            · have d3 : decide ((k : Int) < 24) = true := decide_eq_true (by omega)
              have hk0 : (0 : Int) ≤ k := by omega
              obtain ⟨j3, e3⟩ : ∃ j : Nat, (k : Int) % 3 = (j : Int) := ⟨k % 3, by omega⟩
              obtain ⟨j4, e4⟩ : ∃ j : Nat, (k : Int) % 4 = (j : Int) := ⟨k % 4, by omega⟩
              obtain ⟨i6, e6⟩ : ∃ j : Nat, (k : Int) / 6 = (j : Int) := ⟨k / 6, by omega⟩
              obtain ⟨j44, e44⟩ : ∃ j : Nat, (k : Int) / 4 % 4 = (j : Int) := ⟨k / 4 % 4, by omega⟩
              obtain ⟨j7, e7⟩ : ∃ j : Nat, (k : Int) % 7 = (j : Int) := ⟨k % 7, by omega⟩
              have b3 : j3 < 3 := by omega
              have b4 : j4 < 4 := by omega
              have b6 : i6 < 4 := by omega
              have b44 : j44 < 4 := by omega
              have b7 : j7 < 7 := by omega
              have E3 := Lib.hid e3
              have E4 := Lib.hid e4
              have E6 := Lib.hid e6
              have E44 := Lib.hid e44
              have E7 := Lib.hid e7
              clear e4 e6 e44 e7
              obtain ⟨x6, hx6⟩ : ∃ x, endsL[i6]? = some x := ⟨_, List.getElem?_eq_getElem (by show i6 < 4; omega)⟩
              obtain ⟨x4, hx4⟩ : ∃ x, endsL[j4]? = some x := ⟨_, List.getElem?_eq_getElem (by show j4 < 4; omega)⟩
              have h6 := HE64.out x6 (List.mem_of_getElem? hx6)
              have h4 := HE64.out x4 (List.mem_of_getElem? hx4)
              obtain ⟨W3, hW3⟩ : ∃ W3, wr.alloc (.cells #[.int .i64 (3 + (j3 : Int)), .slice none 0 0, .slice none 0 0, .slice (some ⟨T2, 0, none⟩) m 3] 25) = W3 := ⟨_, rfl⟩
              obtain ⟨T8, hT8⟩ : ∃ T8, wr.heap.size = T8 := ⟨_, rfl⟩
              have hg23 : Grow W2 W3 := by rw [← hW3]; exact hgq.out.trans (Grow.alloc _ _)
              have hb8 : Blk W3 T8 25 #[.int .i64 (3 + (j3 : Int)), .slice none 0 0, .slice none 0 0, .slice (some ⟨T2, 0, none⟩) m 3] := by rw [← hW3, ← hT8]; exact Blk.new _ _ _
              have HcE := Lib.hid (show ∀ (i : Nat) (x : Int), endsL[i]? = some x → ∀ w3, KeepTy W3.heap.size 3 W3 w3 → w3.cell? ⟨w.heap.size, i, none⟩ = some (.int .i64 x) from fun i x hx w3 hk => by
                have h9 := (Grow.blk hg23 HbE.out).below (hk.below (Nat.le_refl _)) (Grow.blk hg23 HbE.out).lt
                rw [h9.cell i]
                simp [hx, i64v])
              have Hb8 := Lib.hid (show ∀ w3, KeepTy W3.heap.size 3 W3 w3 → Blk w3 T8 25 #[.int .i64 (3 + (j3 : Int)), .slice none 0 0, .slice none 0 0, .slice (some ⟨T2, 0, none⟩) m 3] from fun w3 hk => hk.blk hb8 (by decide))
              have HT1 := Lib.hid (show ∀ (d : Nat) w3, KeepTy W3.heap.size 3 W3 w3 → TreeCells (d + 2) w3 w3.heap.size [.int .i64 (3 + (j3 : Int)), .slice none 0 0, .slice none 0 0, .slice (some ⟨T2, 0, none⟩) m 3] (.mk (3 + (j3 : Int)) [] [] ([TreeM.mk 0 la [] [], .mk 0 lb [] [], .mk 0 endsL [] []].take m)) from fun d w3 hk =>
                ⟨none, 0, 0, none, 0, 0, some ⟨T2, 0, none⟩, m, 3, rfl, by omega, by omega, by omega, IntsAt.nil, IntsAt.nil, (((HkT.out d).below hg23).more hg23.size |>.below (hk.below (Nat.le_refl _))).more hk.size, by unfold W64; simp only [TreeM.what]; omega, fun x hx => by simp [TreeM.row] at hx, fun x hx => by simp [TreeM.skip] at hx⟩)
              have HR3 := Lib.hid (show ∀ w3, KeepTy W3.heap.size 3 W3 w3 → IntsAt w3 w3.heap.size A3 na la from fun w3 hk => (((I3.out.below hg23).more hg23.size).below (hk.below (Nat.le_refl _))).more hk.size)
              have HR4 := Lib.hid (show ∀ w3, KeepTy W3.heap.size 3 W3 w3 → IntsAt w3 w3.heap.size A4 nb lb from fun w3 hk => (((I4.out.below hg23).more hg23.size).below (hk.below (Nat.le_refl _))).more hk.size)
              have Hg23 := Lib.hid hg23
              have Hx6 := Lib.hid hx6
              have Hx4 := Lib.hid hx4
              have H6 := Lib.hid h6
              have H4 := Lib.hid h4
              have hz3 : W2.heap.size ≤ W3.heap.size := hg23.size
              clear hg23 hb8 hx6 hx4 h6 h4
              go_upto_region 18 with (fail)
              clear hT8 hW3 e3
              go_cut [105] from 63 to 104 (fun v105 wx => ∃ W : World, W = wx ∧ v105 = .bool false ∧ Hid (Grow W3 W))
              case first Jx Kx hJx hMx =>
                refine wp_region_stages (by kernel_rfl) ?_
                refine anyOrder_start [17, 22, 24, 26, 31, 40] (KeepTy W3.heap.size 3) (prW W3.heap.size na nb la lb (j7 : Int) #[.int .i64 (3 + (j3 : Int)), .slice none 0 0, .slice none 0 0, .slice (some ⟨T2, 0, none⟩) m 3, .int .i64 0, .slice A4 nb c4, .slice none 0 0, .slice none 0 0]) (FactsOn [.is (.agg #[.int .i64 (3 + (j3 : Int)), .slice none 0 0, .slice none 0 0, .slice (some ⟨T2, 0, none⟩) m 3]), .is (.int .i64 (k : Int)), .is (.int .i64 (j4 : Int)), .is (.slice (some ⟨w.heap.size, 0, none⟩) 4 4), .is (.int .i64 (k : Int)), .is (.int .i64 (i6 : Int)), .is (.pointer (some ⟨w.heap.size, i6, none⟩)), .is (.int .i64 x6), .is (.agg #[.int .i64 (j4 : Int), .int .i64 x6]), .is (.int .i64 (k : Int)), .is (.int .i64 ((k : Int) / 4)), .is (.int .i64 (j44 : Int)), .is (.int .i64 (k : Int)), .is (.int .i64 (j3 : Int)), .is (.agg #[.int .i64 (j44 : Int), .int .i64 (j3 : Int)]), .is (.agg #[.int .i64 0, .int .i64 0]), .newB W3.heap.size 3 36 (by decide) #[.int .i64 (j4 : Int), .int .i64 x6, .int .i64 (j44 : Int), .int .i64 (j3 : Int), .int .i64 0, .int .i64 0], .any, .is (.bool false), .is (.bool false), .is (.int .i64 (k : Int)), .is (.int .i64 (j7 : Int)), .any, .is (.slice A4 nb c4), .any, .is (.slice A3 na c3), .any, .is (.agg #[.int .i64 (3 + (j3 : Int)), .slice none 0 0, .slice none 0 0, .slice (some ⟨T2, 0, none⟩) m 3]), .is (.slice A4 nb c4), .is (.agg #[.int .i64 0, .slice A4 nb c4, .slice none 0 0, .slice none 0 0]), .newB W3.heap.size 2 25 (by decide) #[.int .i64 (3 + (j3 : Int)), .slice none 0 0, .slice none 0 0, .slice (some ⟨T2, 0, none⟩) m 3, .int .i64 0, .slice A4 nb c4, .slice none 0 0, .slice none 0 0], .any, .is (.agg #[.int .i64 0, .int .i64 0]), .is (.slice (some ⟨w.heap.size, 0, none⟩) 4 4), .is (.int .i64 (k : Int)), .is (.int .i64 (j4 : Int)), .is (.pointer (some ⟨w.heap.size, j4, none⟩)), .is (.int .i64 x4), .is (.agg #[.int .i64 1, .int .i64 x4]), .newB W3.heap.size 2 36 (by decide) #[.int .i64 0, .int .i64 0, .int .i64 1, .int .i64 x4], .any, .is (.bool false), .is (.bool false)]) (fun i => 99) keepTy_trans keepTy_grow (prW.grow) (factsOn_mono _) (by kernel_rfl) (by kernel_rfl) trivial ?_ ?_
                · refine ⟨?_, ?_, ?_, ?_, ?_, ?_, ?_, ?_, ?_, ?_, ?_, ?_, ?_, ?_, ?_, ?_, ?_, ?_, ?_, ?_, ?_, ?_, ?_, ?_, ?_, ?_, ?_, ?_, ?_, ?_, ?_, ?_, ?_, ?_, ?_, ?_, ?_, ?_, ?_, ?_, ?_, ?_, ?_, trivial⟩
                  · refine stageOf_free rfl (fun _ _ _ _ _ _ => wanted_none rfl) ?_
                    intro us vals w3 a' ha hle hW hd hv K hK
                    have q8 : a'.tmps[8]? = some (.pointer (some ⟨T8, 0, none⟩)) := slot_old ha (by kernel_rfl) (by kernel_rfl)
                    have hb := Hb8.out w3 hle
                    have h0 := hb.cell 0
                    have h1 := hb.cell 1
                    have h2 := hb.cell 2
                    have h3 := hb.cell 3
                    refine step_value (v := .agg #[.int .i64 (3 + (j3 : Int)), .slice none 0 0, .slice none 0 0, .slice (some ⟨T2, 0, none⟩) m 3]) (w2 := w3) ?_ (hK _ _ (Grow.refl _) rfl)
                    go_simp
                  · refine stageOf_free rfl (fun _ _ _ _ _ _ => wanted_none rfl) ?_
                    intro us vals w3 a' ha hle hW hd hv K hK
                    have q7 : a'.tmps[7]? = some (.int .i64 (k : Int)) := slot_old ha (by kernel_rfl) (by kernel_rfl)
                    exact step_value (w2 := w3) (by go_simp) (hK _ _ (Grow.refl _) rfl)
                  · refine stageOf_free rfl (fun _ _ _ _ _ _ => wanted_none rfl) ?_
                    intro us vals w3 a' ha hle hW hd hv K hK
                    obtain ⟨d1, _⟩ := hd
                    have q64 : a'.tmps[64]? = some (us 1) := slot_get ha 1 (by kernel_rfl) (by kernel_rfl)
                    rw [show us 1 = .int .i64 (k : Int) from d1] at q64
                    refine step_value (v := .int .i64 (j4 : Int)) (w2 := w3) ?_ (hK _ _ (Grow.refl _) rfl)
                    go_simp
                    exact E4.out
                  · refine stageOf_free rfl (fun _ _ _ _ _ _ => wanted_none rfl) ?_
                    intro us vals w3 a' ha hle hW hd hv K hK
                    have q1 : a'.tmps[1]? = some (.slice (some ⟨w.heap.size, 0, none⟩) 4 4) := slot_old ha (by kernel_rfl) (by kernel_rfl)
                    exact step_value (w2 := w3) (by go_simp) (hK _ _ (Grow.refl _) rfl)
                  · refine stageOf_free rfl (fun _ _ _ _ _ _ => wanted_none rfl) ?_
                    intro us vals w3 a' ha hle hW hd hv K hK
                    have q7 : a'.tmps[7]? = some (.int .i64 (k : Int)) := slot_old ha (by kernel_rfl) (by kernel_rfl)
                    exact step_value (w2 := w3) (by go_simp) (hK _ _ (Grow.refl _) rfl)
                  · refine stageOf_free rfl (fun _ _ _ _ _ _ => wanted_none rfl) ?_
                    intro us vals w3 a' ha hle hW hd hv K hK
                    obtain ⟨d4, _⟩ := hd
                    have q67 : a'.tmps[67]? = some (us 4) := slot_get ha 4 (by kernel_rfl) (by kernel_rfl)
                    rw [show us 4 = .int .i64 (k : Int) from d4] at q67
                    refine step_value (v := .int .i64 (i6 : Int)) (w2 := w3) ?_ (hK _ _ (Grow.refl _) rfl)
                    go_simp
                    rw [IntWalk.i64_in _ (by omega)]
                    exact E6.out
                  · refine stageOf_free rfl (fun _ _ _ _ _ _ => wanted_none rfl) ?_
                    intro us vals w3 a' ha hle hW hd hv K hK
                    obtain ⟨d3, d5, _⟩ := hd
                    have q66 : a'.tmps[66]? = some (us 3) := slot_get ha 3 (by kernel_rfl) (by kernel_rfl)
                    rw [show us 3 = .slice (some ⟨w.heap.size, 0, none⟩) 4 4 from d3] at q66
                    have q68 : a'.tmps[68]? = some (us 5) := slot_get ha 5 (by kernel_rfl) (by kernel_rfl)
                    rw [show us 5 = .int .i64 (i6 : Int) from d5] at q68
                    refine step_value (v := .pointer (some ⟨w.heap.size, i6, none⟩)) (w2 := w3) ?_ (hK _ _ (Grow.refl _) rfl)
                    go_simp
                    omega
                  · refine stageOf_free rfl (fun _ _ _ _ _ _ => wanted_none rfl) ?_
                    intro us vals w3 a' ha hle hW hd hv K hK
                    obtain ⟨d6, _⟩ := hd
                    have q69 : a'.tmps[69]? = some (us 6) := slot_get ha 6 (by kernel_rfl) (by kernel_rfl)
                    rw [show us 6 = .pointer (some ⟨w.heap.size, i6, none⟩) from d6] at q69
                    have hc := HcE.out i6 x6 Hx6.out w3 hle
                    refine step_value (v := .int .i64 x6) (w2 := w3) ?_ (hK _ _ (Grow.refl _) rfl)
                    go_simp
                  · refine stageOf_free rfl (fun _ _ _ _ _ _ => wanted_none rfl) ?_
                    intro us vals w3 a' ha hle hW hd hv K hK
                    obtain ⟨d2, d7, _⟩ := hd
                    have q65 : a'.tmps[65]? = some (us 2) := slot_get ha 2 (by kernel_rfl) (by kernel_rfl)
                    rw [show us 2 = .int .i64 (j4 : Int) from d2] at q65
                    have q70 : a'.tmps[70]? = some (us 7) := slot_get ha 7 (by kernel_rfl) (by kernel_rfl)
                    rw [show us 7 = .int .i64 x6 from d7] at q70
                    refine step_value (v := .agg #[.int .i64 (j4 : Int), .int .i64 x6]) (w2 := w3) ?_ (hK _ _ (Grow.refl _) rfl)
                    go_simp
                  · refine stageOf_free rfl (fun _ _ _ _ _ _ => wanted_none rfl) ?_
                    intro us vals w3 a' ha hle hW hd hv K hK
                    have q7 : a'.tmps[7]? = some (.int .i64 (k : Int)) := slot_old ha (by kernel_rfl) (by kernel_rfl)
                    exact step_value (w2 := w3) (by go_simp) (hK _ _ (Grow.refl _) rfl)
                  · refine stageOf_free rfl (fun _ _ _ _ _ _ => wanted_none rfl) ?_
                    intro us vals w3 a' ha hle hW hd hv K hK
                    obtain ⟨d9, _⟩ := hd
                    have q72 : a'.tmps[72]? = some (us 9) := slot_get ha 9 (by kernel_rfl) (by kernel_rfl)
                    rw [show us 9 = .int .i64 (k : Int) from d9] at q72
                    refine step_value (v := .int .i64 ((k : Int) / 4)) (w2 := w3) ?_ (hK _ _ (Grow.refl _) rfl)
                    go_simp
                    exact IntWalk.i64_in _ (by omega)
                  · refine stageOf_free rfl (fun _ _ _ _ _ _ => wanted_none rfl) ?_
                    intro us vals w3 a' ha hle hW hd hv K hK
                    obtain ⟨d10, _⟩ := hd
                    have q73 : a'.tmps[73]? = some (us 10) := slot_get ha 10 (by kernel_rfl) (by kernel_rfl)
                    rw [show us 10 = .int .i64 ((k : Int) / 4) from d10] at q73
                    refine step_value (v := .int .i64 (j44 : Int)) (w2 := w3) ?_ (hK _ _ (Grow.refl _) rfl)
                    go_simp
                    exact E44.out
                  · refine stageOf_free rfl (fun _ _ _ _ _ _ => wanted_none rfl) ?_
                    intro us vals w3 a' ha hle hW hd hv K hK
                    have q7 : a'.tmps[7]? = some (.int .i64 (k : Int)) := slot_old ha (by kernel_rfl) (by kernel_rfl)
                    exact step_value (w2 := w3) (by go_simp) (hK _ _ (Grow.refl _) rfl)
                  · refine stageOf_free rfl (fun _ _ _ _ _ _ => wanted_none rfl) ?_
                    intro us vals w3 a' ha hle hW hd hv K hK
                    obtain ⟨d12, _⟩ := hd
                    have q75 : a'.tmps[75]? = some (us 12) := slot_get ha 12 (by kernel_rfl) (by kernel_rfl)
                    rw [show us 12 = .int .i64 (k : Int) from d12] at q75
                    refine step_value (v := .int .i64 (j3 : Int)) (w2 := w3) ?_ (hK _ _ (Grow.refl _) rfl)
                    go_simp
                    exact E3.out
                  · refine stageOf_free rfl (fun _ _ _ _ _ _ => wanted_none rfl) ?_
                    intro us vals w3 a' ha hle hW hd hv K hK
                    obtain ⟨d11, d13, _⟩ := hd
                    have q74 : a'.tmps[74]? = some (us 11) := slot_get ha 11 (by kernel_rfl) (by kernel_rfl)
                    rw [show us 11 = .int .i64 (j44 : Int) from d11] at q74
                    have q76 : a'.tmps[76]? = some (us 13) := slot_get ha 13 (by kernel_rfl) (by kernel_rfl)
                    rw [show us 13 = .int .i64 (j3 : Int) from d13] at q76
                    refine step_value (v := .agg #[.int .i64 (j44 : Int), .int .i64 (j3 : Int)]) (w2 := w3) ?_ (hK _ _ (Grow.refl _) rfl)
                    go_simp
                  · refine stageOf_free rfl (fun _ _ _ _ _ _ => wanted_none rfl) ?_
                    intro us vals w3 a' ha hle hW hd hv K hK
                    refine step_value (v := .agg #[.int .i64 0, .int .i64 0]) (w2 := w3) ?_ (hK _ _ (Grow.refl _) rfl)
                    go_simp
                  · refine stageOf_free rfl (fun _ _ _ _ _ _ => wanted_none rfl) ?_
                    intro us vals w3 a' ha hle hW hd hv K hK
                    obtain ⟨d8, d14, d15, _⟩ := hd
                    have q71 : a'.tmps[71]? = some (us 8) := slot_get ha 8 (by kernel_rfl) (by kernel_rfl)
                    rw [show us 8 = .agg #[.int .i64 (j4 : Int), .int .i64 x6] from d8] at q71
                    have q77 : a'.tmps[77]? = some (us 14) := slot_get ha 14 (by kernel_rfl) (by kernel_rfl)
                    rw [show us 14 = .agg #[.int .i64 (j44 : Int), .int .i64 (j3 : Int)] from d14] at q77
                    have q78 : a'.tmps[78]? = some (us 15) := slot_get ha 15 (by kernel_rfl) (by kernel_rfl)
                    rw [show us 15 = .agg #[.int .i64 0, .int .i64 0] from d15] at q78
                    refine step_value (v := .slice (some ⟨w3.heap.size, 0, none⟩) 3 3) (w2 := w3.alloc (.cells #[.int .i64 (j4 : Int), .int .i64 x6, .int .i64 (j44 : Int), .int .i64 (j3 : Int), .int .i64 0, .int .i64 0] 36)) (by go_simp) (hK _ _ (Grow.alloc _ _) ⟨w3.heap.size, rfl, hle.size, Blk.new _ _ _⟩)
                  · refine stageOf_mem (t := 0) rfl ?_
                    intro us vals w3 a' ha hle hW hd hv
                    obtain ⟨d0, ⟨g16, u16, z16, b16⟩, _⟩ := hd
                    obtain rfl := List.eq_nil_of_length_eq_zero (Nat.le_zero.1 (show vals.length ≤ 0 from Nat.le_of_eq hv))
                    refine ⟨wanted_none rfl, fun K hK => ?_⟩
                    have q63 : a'.tmps[63]? = some (us 0) := slot_get ha 0 (by kernel_rfl) (by kernel_rfl)
                    rw [show us 0 = .agg #[.int .i64 (3 + (j3 : Int)), .slice none 0 0, .slice none 0 0, .slice (some ⟨T2, 0, none⟩) m 3] from d0] at q63
                    have q79 : a'.tmps[79]? = some (us 16) := slot_get ha 16 (by kernel_rfl) (by kernel_rfl)
                    rw [u16] at q79
                    refine step_call (f := 3) (args := #[.agg #[.int .i64 (3 + (j3 : Int)), .slice none 0 0, .slice none 0 0, .slice (some ⟨T2, 0, none⟩) m 3], .slice (some ⟨g16, 0, none⟩) 3 3]) (by go_simp) ?_
                    refine (moves_any w3 w3.heap.size _ [.int .i64 (3 + (j3 : Int)), .slice none 0 0, .slice none 0 0, .slice (some ⟨T2, 0, none⟩) m 3] (some ⟨g16, 0, none⟩) 3 3 [((j4 : Int), x6), ((j44 : Int), (j3 : Int)), (0, 0)] (HT1.out 4 w3 hle) (MovesAt.lit b16 b16.lt (by simp only [List.mem_cons, List.not_mem_nil, or_false]; rintro m9 (rfl | rfl | rfl); exact ⟨by unfold W64; omega, H6.out⟩; exact ⟨by unfold W64; omega, by unfold W64; omega⟩; exact ⟨by unfold W64; omega, by unfold W64; omega⟩) rfl) (Nat.le_refl _) (by omega)).mono ?_
                    rintro e w4 ⟨rfl, hg4⟩
                    exact ⟨_, rfl, hK _ _ (keepTy_grow _ _ hg4) rfl⟩
                  · refine stageOf_free rfl (fun _ _ _ _ _ _ => wanted_none rfl) ?_
                    intro us vals w3 a' ha hle hW hd hv K hK
                    obtain ⟨d17, _⟩ := hd
                    have q80 : a'.tmps[80]? = some (us 17) := slot_get ha 17 (by kernel_rfl) (by kernel_rfl)
                    have ex : us 17 = .bool true := prW.x hW d17
                    rw [ex] at q80
                    refine step_value (v := .bool false) (w2 := w3) ?_ (hK _ _ (Grow.refl _) rfl)
                    go_simp
                  · refine stageOf_free rfl (fun _ _ _ _ _ _ => wanted_none rfl) ?_
                    intro us vals w3 a' ha hle hW hd hv K hK
                    obtain ⟨d18, _, _⟩ := hd
                    have q81 : a'.tmps[81]? = some (us 18) := slot_get ha 18 (by kernel_rfl) (by kernel_rfl)
                    rw [show us 18 = .bool false from d18] at q81
                    exact step_value (w2 := w3) (by go_simp) (hK _ _ (Grow.refl _) rfl)
                  · refine stageOf_free rfl (fun us vals w3 a' ha hd => ?_) ?_
                    · obtain ⟨d19, _⟩ := hd
                      have q : a'.tmps[82]? = some (us 19) := slot_get ha 19 (by kernel_rfl) (by kernel_rfl)
                      rw [show us 19 = .bool false from d19] at q
                      exact wanted_some rfl rfl q
                    intro us vals w3 a' ha hle hW hd hv K hK
                    have q7 : a'.tmps[7]? = some (.int .i64 (k : Int)) := slot_old ha (by kernel_rfl) (by kernel_rfl)
                    exact step_value (w2 := w3) (by go_simp) (hK _ _ (Grow.refl _) rfl)
                  · refine stageOf_free rfl (fun us vals w3 a' ha hd => ?_) ?_
                    · obtain ⟨_, d19, _⟩ := hd
                      have q : a'.tmps[82]? = some (us 19) := slot_get ha 19 (by kernel_rfl) (by kernel_rfl)
                      rw [show us 19 = .bool false from d19] at q
                      exact wanted_some rfl rfl q
                    intro us vals w3 a' ha hle hW hd hv K hK
                    obtain ⟨d20, _, _⟩ := hd
                    have q83 : a'.tmps[83]? = some (us 20) := slot_get ha 20 (by kernel_rfl) (by kernel_rfl)
                    rw [show us 20 = .int .i64 (k : Int) from d20] at q83
                    refine step_value (v := .int .i64 (j7 : Int)) (w2 := w3) ?_ (hK _ _ (Grow.refl _) rfl)
                    go_simp
                    exact E7.out
                  · refine stageOf_mem (t := 1) rfl ?_
                    intro us vals w3 a' ha hle hW hd hv
                    obtain ⟨d19, _⟩ := hd
                    obtain ⟨x0, rfl⟩ := List.length_eq_one_iff.1 hv
                    have qg : a'.tmps[82]? = some (us 19) := slot_get ha 19 (by kernel_rfl) (by kernel_rfl)
                    rw [show us 19 = .bool false from d19] at qg
                    refine ⟨wanted_some rfl rfl qg, fun K hK => ?_⟩
                    refine step_value (v := .slice (some ⟨w3.heap.size, 0, none⟩) 0 0) (w2 := w3.alloc (.cells #[] 3)) (by go_simp) (hK _ _ (keepTy_grow _ _ (Grow.alloc _ _)) ⟨hW, World.ownsRow_lit w3 #[] 0 hle.size (by decide) rfl⟩)
                  · refine stageOf_free rfl (fun us vals w3 a' ha hd => ?_) ?_
                    · obtain ⟨d19, _⟩ := hd
                      have q : a'.tmps[82]? = some (us 19) := slot_get ha 19 (by kernel_rfl) (by kernel_rfl)
                      rw [show us 19 = .bool false from d19] at q
                      exact wanted_some rfl rfl q
                    intro us vals w3 a' ha hle hW hd hv K hK
                    have q4 : a'.tmps[4]? = some (.slice A4 nb c4) := slot_old ha (by kernel_rfl) (by kernel_rfl)
                    exact step_value (w2 := w3) (by go_simp) (hK _ _ (Grow.refl _) rfl)
                  · refine stageOf_mem (t := 2) rfl ?_
                    intro us vals w3 a' ha hle hW hd hv
                    obtain ⟨d22, d23, d19, _, _⟩ := hd
                    have qg : a'.tmps[82]? = some (us 19) := slot_get ha 19 (by kernel_rfl) (by kernel_rfl)
                    rw [show us 19 = .bool false from d19] at qg
                    refine ⟨wanted_some rfl rfl qg, fun K hK => ?_⟩
                    have q85 : a'.tmps[85]? = some (us 22) := slot_get ha 22 (by kernel_rfl) (by kernel_rfl)
                    have q86 : a'.tmps[86]? = some (us 23) := slot_get ha 23 (by kernel_rfl) (by kernel_rfl)
                    rw [show us 23 = .slice A4 nb c4 from d23] at q86
                    obtain ⟨y0, y1, rfl⟩ := vlen2 hv
                    obtain ⟨hx, hown⟩ := hW
                    have ee : y1 = us 22 := by have h0 : some y1 = some (us 22) := d22; injection h0
                    rw [ee] at hown
                    refine wp_append_reads w3 (.tmp 85) (.tmp 86) rfl intsTy (evalT q85) hown (evalT q86) (HR4.out w3 hle) (i64_one _) (by unfold maxLen; omega) (by omega) hle.size ?_
                    intro v2 w4 ho hgr hat
                    rw [Nat.zero_add, List.nil_append] at ho
                    exact hK _ _ (KeepTy.ofOwn hgr hown) ⟨hx, ho⟩
                  · refine stageOf_free rfl (fun us vals w3 a' ha hd => ?_) ?_
                    · obtain ⟨d19, _⟩ := hd
                      have q : a'.tmps[82]? = some (us 19) := slot_get ha 19 (by kernel_rfl) (by kernel_rfl)
                      rw [show us 19 = .bool false from d19] at q
                      exact wanted_some rfl rfl q
                    intro us vals w3 a' ha hle hW hd hv K hK
                    have q3 : a'.tmps[3]? = some (.slice A3 na c3) := slot_old ha (by kernel_rfl) (by kernel_rfl)
                    exact step_value (w2 := w3) (by go_simp) (hK _ _ (Grow.refl _) rfl)
                  · refine stageOf_mem (t := 3) rfl ?_
                    intro us vals w3 a' ha hle hW hd hv
                    obtain ⟨d24, d25, _, d19, _⟩ := hd
                    have qg : a'.tmps[82]? = some (us 19) := slot_get ha 19 (by kernel_rfl) (by kernel_rfl)
                    rw [show us 19 = .bool false from d19] at qg
                    refine ⟨wanted_some rfl rfl qg, fun K hK => ?_⟩
                    have q87 : a'.tmps[87]? = some (us 24) := slot_get ha 24 (by kernel_rfl) (by kernel_rfl)
                    have q88 : a'.tmps[88]? = some (us 25) := slot_get ha 25 (by kernel_rfl) (by kernel_rfl)
                    rw [show us 25 = .slice A3 na c3 from d25] at q88
                    obtain ⟨y0, y1, y2, rfl⟩ := plen3 hv
                    obtain ⟨hx, hown⟩ := hW
                    have ee : y2 = us 24 := by have h0 : some y2 = some (us 24) := d24; injection h0
                    rw [ee] at hown
                    refine wp_append_reads w3 (.tmp 87) (.tmp 88) rfl intsTy (evalT q87) hown (evalT q88) (HR3.out w3 hle) (i64_one _) (by unfold maxLen; omega) (by omega) hle.size ?_
                    intro v2 w4 ho hgr hat
                    rw [← List.map_append] at ho
                    exact hK _ _ (KeepTy.ofOwn hgr hown) ⟨hx, ho⟩
                  · refine stageOf_free rfl (fun us vals w3 a' ha hd => ?_) ?_
                    · obtain ⟨d19, _⟩ := hd
                      have q : a'.tmps[82]? = some (us 19) := slot_get ha 19 (by kernel_rfl) (by kernel_rfl)
                      rw [show us 19 = .bool false from d19] at q
                      exact wanted_some rfl rfl q
                    intro us vals w3 a' ha hle hW hd hv K hK
                    have q8 : a'.tmps[8]? = some (.pointer (some ⟨T8, 0, none⟩)) := slot_old ha (by kernel_rfl) (by kernel_rfl)
                    have hb := Hb8.out w3 hle
                    have h0 := hb.cell 0
                    have h1 := hb.cell 1
                    have h2 := hb.cell 2
                    have h3 := hb.cell 3
                    refine step_value (v := .agg #[.int .i64 (3 + (j3 : Int)), .slice none 0 0, .slice none 0 0, .slice (some ⟨T2, 0, none⟩) m 3]) (w2 := w3) ?_ (hK _ _ (Grow.refl _) rfl)
                    go_simp
                  · refine stageOf_free rfl (fun us vals w3 a' ha hd => ?_) ?_
                    · obtain ⟨d19, _⟩ := hd
                      have q : a'.tmps[82]? = some (us 19) := slot_get ha 19 (by kernel_rfl) (by kernel_rfl)
                      rw [show us 19 = .bool false from d19] at q
                      exact wanted_some rfl rfl q
                    intro us vals w3 a' ha hle hW hd hv K hK
                    have q4 : a'.tmps[4]? = some (.slice A4 nb c4) := slot_old ha (by kernel_rfl) (by kernel_rfl)
                    exact step_value (w2 := w3) (by go_simp) (hK _ _ (Grow.refl _) rfl)
                  · refine stageOf_free rfl (fun us vals w3 a' ha hd => ?_) ?_
                    · obtain ⟨_, d19, _⟩ := hd
                      have q : a'.tmps[82]? = some (us 19) := slot_get ha 19 (by kernel_rfl) (by kernel_rfl)
                      rw [show us 19 = .bool false from d19] at q
                      exact wanted_some rfl rfl q
                    intro us vals w3 a' ha hle hW hd hv K hK
                    obtain ⟨d28, _, _⟩ := hd
                    have q91 : a'.tmps[91]? = some (us 28) := slot_get ha 28 (by kernel_rfl) (by kernel_rfl)
                    rw [show us 28 = .slice A4 nb c4 from d28] at q91
                    refine step_value (v := .agg #[.int .i64 0, .slice A4 nb c4, .slice none 0 0, .slice none 0 0]) (w2 := w3) ?_ (hK _ _ (Grow.refl _) rfl)
                    go_simp
                  · refine stageOf_free rfl (fun us vals w3 a' ha hd => ?_) ?_
                    · obtain ⟨_, _, d19, _⟩ := hd
                      have q : a'.tmps[82]? = some (us 19) := slot_get ha 19 (by kernel_rfl) (by kernel_rfl)
                      rw [show us 19 = .bool false from d19] at q
                      exact wanted_some rfl rfl q
                    intro us vals w3 a' ha hle hW hd hv K hK
                    obtain ⟨d27, d29, _, _⟩ := hd
                    have q90 : a'.tmps[90]? = some (us 27) := slot_get ha 27 (by kernel_rfl) (by kernel_rfl)
                    rw [show us 27 = .agg #[.int .i64 (3 + (j3 : Int)), .slice none 0 0, .slice none 0 0, .slice (some ⟨T2, 0, none⟩) m 3] from d27] at q90
                    have q92 : a'.tmps[92]? = some (us 29) := slot_get ha 29 (by kernel_rfl) (by kernel_rfl)
                    rw [show us 29 = .agg #[.int .i64 0, .slice A4 nb c4, .slice none 0 0, .slice none 0 0] from d29] at q92
                    refine step_value (v := .slice (some ⟨w3.heap.size, 0, none⟩) 2 2) (w2 := w3.alloc (.cells #[.int .i64 (3 + (j3 : Int)), .slice none 0 0, .slice none 0 0, .slice (some ⟨T2, 0, none⟩) m 3, .int .i64 0, .slice A4 nb c4, .slice none 0 0, .slice none 0 0] 25)) (by go_simp) (hK _ _ (Grow.alloc _ _) ⟨w3.heap.size, rfl, hle.size, Blk.new _ _ _⟩)
                  · refine stageOf_mem (t := 4) rfl ?_
                    intro us vals w3 a' ha hle hW hd hv
                    obtain ⟨d21, d26, ⟨g30, u30, z30, b30⟩, d19, _⟩ := hd
                    have qg : a'.tmps[82]? = some (us 19) := slot_get ha 19 (by kernel_rfl) (by kernel_rfl)
                    rw [show us 19 = .bool false from d19] at qg
                    refine ⟨wanted_some rfl rfl qg, fun K hK => ?_⟩
                    have q84 : a'.tmps[84]? = some (us 21) := slot_get ha 21 (by kernel_rfl) (by kernel_rfl)
                    rw [show us 21 = .int .i64 (j7 : Int) from d21] at q84
                    have q89 : a'.tmps[89]? = some (us 26) := slot_get ha 26 (by kernel_rfl) (by kernel_rfl)
                    have q93 : a'.tmps[93]? = some (us 30) := slot_get ha 30 (by kernel_rfl) (by kernel_rfl)
                    rw [u30] at q93
                    obtain ⟨y0, y1, y2, y3, rfl⟩ := vlen4 hv
                    obtain ⟨hx, hown⟩ := hW
                    have ee : y3 = us 26 := by have h0 : some y3 = some (us 26) := d26; injection h0
                    rw [ee] at hown
                    obtain ⟨A5, c5, e5, -, -, hr5⟩ := own_reads hown
                    rw [e5] at q89
                    refine step_value (v := .agg #[.int .i64 (j7 : Int), .slice A5 (nb + na) c5, .slice none 0 0, .slice (some ⟨g30, 0, none⟩) 2 2]) (w2 := w3) ?_ (hK _ _ (keepTy_grow _ _ (Grow.refl _)) ⟨hx, A5, c5, g30, rfl, hr5, z30, b30⟩)
                    go_simp
                  · refine stageOf_free rfl (fun us vals w3 a' ha hd => ?_) ?_
                    · obtain ⟨d19, _⟩ := hd
                      have q : a'.tmps[82]? = some (us 19) := slot_get ha 19 (by kernel_rfl) (by kernel_rfl)
                      rw [show us 19 = .bool false from d19] at q
                      exact wanted_some rfl rfl q
                    intro us vals w3 a' ha hle hW hd hv K hK
                    refine step_value (v := .agg #[.int .i64 0, .int .i64 0]) (w2 := w3) ?_ (hK _ _ (Grow.refl _) rfl)
                    go_simp
                  · refine stageOf_free rfl (fun us vals w3 a' ha hd => ?_) ?_
                    · obtain ⟨d19, _⟩ := hd
                      have q : a'.tmps[82]? = some (us 19) := slot_get ha 19 (by kernel_rfl) (by kernel_rfl)
                      rw [show us 19 = .bool false from d19] at q
                      exact wanted_some rfl rfl q
                    intro us vals w3 a' ha hle hW hd hv K hK
                    have q1 : a'.tmps[1]? = some (.slice (some ⟨w.heap.size, 0, none⟩) 4 4) := slot_old ha (by kernel_rfl) (by kernel_rfl)
                    exact step_value (w2 := w3) (by go_simp) (hK _ _ (Grow.refl _) rfl)
                  · refine stageOf_free rfl (fun us vals w3 a' ha hd => ?_) ?_
                    · obtain ⟨d19, _⟩ := hd
                      have q : a'.tmps[82]? = some (us 19) := slot_get ha 19 (by kernel_rfl) (by kernel_rfl)
                      rw [show us 19 = .bool false from d19] at q
                      exact wanted_some rfl rfl q
                    intro us vals w3 a' ha hle hW hd hv K hK
                    have q7 : a'.tmps[7]? = some (.int .i64 (k : Int)) := slot_old ha (by kernel_rfl) (by kernel_rfl)
                    exact step_value (w2 := w3) (by go_simp) (hK _ _ (Grow.refl _) rfl)
                  · refine stageOf_free rfl (fun us vals w3 a' ha hd => ?_) ?_
                    · obtain ⟨_, d19, _⟩ := hd
                      have q : a'.tmps[82]? = some (us 19) := slot_get ha 19 (by kernel_rfl) (by kernel_rfl)
                      rw [show us 19 = .bool false from d19] at q
                      exact wanted_some rfl rfl q
                    intro us vals w3 a' ha hle hW hd hv K hK
                    obtain ⟨d34, _, _⟩ := hd
                    have q97 : a'.tmps[97]? = some (us 34) := slot_get ha 34 (by kernel_rfl) (by kernel_rfl)
                    rw [show us 34 = .int .i64 (k : Int) from d34] at q97
                    refine step_value (v := .int .i64 (j4 : Int)) (w2 := w3) ?_ (hK _ _ (Grow.refl _) rfl)
                    go_simp
                    exact E4.out
                  · refine stageOf_free rfl (fun us vals w3 a' ha hd => ?_) ?_
                    · obtain ⟨_, _, d19, _⟩ := hd
                      have q : a'.tmps[82]? = some (us 19) := slot_get ha 19 (by kernel_rfl) (by kernel_rfl)
                      rw [show us 19 = .bool false from d19] at q
                      exact wanted_some rfl rfl q
                    intro us vals w3 a' ha hle hW hd hv K hK
                    obtain ⟨d33, d35, _, _⟩ := hd
                    have q96 : a'.tmps[96]? = some (us 33) := slot_get ha 33 (by kernel_rfl) (by kernel_rfl)
                    rw [show us 33 = .slice (some ⟨w.heap.size, 0, none⟩) 4 4 from d33] at q96
                    have q98 : a'.tmps[98]? = some (us 35) := slot_get ha 35 (by kernel_rfl) (by kernel_rfl)
                    rw [show us 35 = .int .i64 (j4 : Int) from d35] at q98
                    refine step_value (v := .pointer (some ⟨w.heap.size, j4, none⟩)) (w2 := w3) ?_ (hK _ _ (Grow.refl _) rfl)
                    go_simp
                    omega
                  · refine stageOf_free rfl (fun us vals w3 a' ha hd => ?_) ?_
                    · obtain ⟨_, d19, _⟩ := hd
                      have q : a'.tmps[82]? = some (us 19) := slot_get ha 19 (by kernel_rfl) (by kernel_rfl)
                      rw [show us 19 = .bool false from d19] at q
                      exact wanted_some rfl rfl q
                    intro us vals w3 a' ha hle hW hd hv K hK
                    obtain ⟨d36, _, _⟩ := hd
                    have q99 : a'.tmps[99]? = some (us 36) := slot_get ha 36 (by kernel_rfl) (by kernel_rfl)
                    rw [show us 36 = .pointer (some ⟨w.heap.size, j4, none⟩) from d36] at q99
                    have hc := HcE.out j4 x4 Hx4.out w3 hle
                    refine step_value (v := .int .i64 x4) (w2 := w3) ?_ (hK _ _ (Grow.refl _) rfl)
                    go_simp
                  · refine stageOf_free rfl (fun us vals w3 a' ha hd => ?_) ?_
                    · obtain ⟨_, d19, _⟩ := hd
                      have q : a'.tmps[82]? = some (us 19) := slot_get ha 19 (by kernel_rfl) (by kernel_rfl)
                      rw [show us 19 = .bool false from d19] at q
                      exact wanted_some rfl rfl q
                    intro us vals w3 a' ha hle hW hd hv K hK
                    obtain ⟨d37, _, _⟩ := hd
                    have q100 : a'.tmps[100]? = some (us 37) := slot_get ha 37 (by kernel_rfl) (by kernel_rfl)
                    rw [show us 37 = .int .i64 x4 from d37] at q100
                    refine step_value (v := .agg #[.int .i64 1, .int .i64 x4]) (w2 := w3) ?_ (hK _ _ (Grow.refl _) rfl)
                    go_simp
                  · refine stageOf_free rfl (fun us vals w3 a' ha hd => ?_) ?_
                    · obtain ⟨_, _, d19, _⟩ := hd
                      have q : a'.tmps[82]? = some (us 19) := slot_get ha 19 (by kernel_rfl) (by kernel_rfl)
                      rw [show us 19 = .bool false from d19] at q
                      exact wanted_some rfl rfl q
                    intro us vals w3 a' ha hle hW hd hv K hK
                    obtain ⟨d32, d38, _, _⟩ := hd
                    have q95 : a'.tmps[95]? = some (us 32) := slot_get ha 32 (by kernel_rfl) (by kernel_rfl)
                    rw [show us 32 = .agg #[.int .i64 0, .int .i64 0] from d32] at q95
                    have q101 : a'.tmps[101]? = some (us 38) := slot_get ha 38 (by kernel_rfl) (by kernel_rfl)
                    rw [show us 38 = .agg #[.int .i64 1, .int .i64 x4] from d38] at q101
                    refine step_value (v := .slice (some ⟨w3.heap.size, 0, none⟩) 2 2) (w2 := w3.alloc (.cells #[.int .i64 0, .int .i64 0, .int .i64 1, .int .i64 x4] 36)) (by go_simp) (hK _ _ (Grow.alloc _ _) ⟨w3.heap.size, rfl, hle.size, Blk.new _ _ _⟩)
                  · refine stageOf_mem (t := 5) rfl ?_
                    intro us vals w3 a' ha hle hW hd hv
                    obtain ⟨d31, ⟨g39, u39, z39, b39⟩, _, d19, _⟩ := hd
                    have qg : a'.tmps[82]? = some (us 19) := slot_get ha 19 (by kernel_rfl) (by kernel_rfl)
                    rw [show us 19 = .bool false from d19] at qg
                    refine ⟨wanted_some rfl rfl qg, fun K hK => ?_⟩
                    have q94 : a'.tmps[94]? = some (us 31) := slot_get ha 31 (by kernel_rfl) (by kernel_rfl)
                    have q102 : a'.tmps[102]? = some (us 39) := slot_get ha 39 (by kernel_rfl) (by kernel_rfl)
                    rw [u39] at q102
                    obtain ⟨y0, y1, y2, y3, y4, rfl⟩ := plen5 hv
                    obtain ⟨hx, A5, c5, g, e5, hr5, hz5, hb5⟩ := hW
                    have ee : y4 = us 31 := by have h0 : some y4 = some (us 31) := d31; injection h0
                    rw [← ee, e5] at q94
                    refine step_call (f := 3) (args := #[.agg #[.int .i64 (j7 : Int), .slice A5 (nb + na) c5, .slice none 0 0, .slice (some ⟨g, 0, none⟩) 2 2], .slice (some ⟨g39, 0, none⟩) 2 2]) (by go_simp) ?_
                    have hkids : TreesAt 5 w3 w3.heap.size (some ⟨g, 0, none⟩) 2 [TreeM.mk (3 + (j3 : Int)) [] [] ([TreeM.mk 0 la [] [], .mk 0 lb [] [], .mk 0 endsL [] []].take m), .mk 0 lb [] []] := TreesAt.lit (m := 2) (ts := [TreeM.mk (3 + (j3 : Int)) [] [] ([TreeM.mk 0 la [] [], .mk 0 lb [] [], .mk 0 endsL [] []].take m), .mk 0 lb [] []]) (css := [[.int .i64 (3 + (j3 : Int)), .slice none 0 0, .slice none 0 0, .slice (some ⟨T2, 0, none⟩) m 3], [.int .i64 0, .slice A4 nb c4, .slice none 0 0, .slice none 0 0]]) hb5 hb5.lt rfl (by simp) (fun j cs t hj ht => by
                      match j, hj, ht with
                      | 0, hj, ht => cases hj; cases ht; exact HT1.out 3 w3 hle
                      | 1, hj, ht => cases hj; cases ht; exact leaf_cells 4 (HR4.out w3 hle) (by omega) HP.out.wb (by unfold W64; omega)) (Nat.le_refl _)
                    refine (moves_any w3 w3.heap.size (.mk (j7 : Int) (lb ++ la) [] [TreeM.mk (3 + (j3 : Int)) [] [] ([TreeM.mk 0 la [] [], .mk 0 lb [] [], .mk 0 endsL [] []].take m), .mk 0 lb [] []]) [.int .i64 (j7 : Int), .slice A5 (nb + na) c5, .slice none 0 0, .slice (some ⟨g, 0, none⟩) 2 2] (some ⟨g39, 0, none⟩) 2 2 [(0, 0), (1, x4)] ⟨A5, nb + na, c5, none, 0, 0, some ⟨g, 0, none⟩, 2, 2, rfl, by omega, by omega, by omega, hr5, IntsAt.nil, hkids, by unfold W64; simp only [TreeM.what]; omega, fun y hy => by simp only [TreeM.row, List.mem_append] at hy; rcases hy with h9 | h9; exact HP.out.wb y h9; exact HP.out.wa y h9, fun y hy => by simp [TreeM.skip] at hy⟩ (MovesAt.lit b39 b39.lt (by simp only [List.mem_cons, List.not_mem_nil, or_false]; rintro m9 (rfl | rfl); exact ⟨by unfold W64; omega, by unfold W64; omega⟩; exact ⟨by unfold W64; omega, H4.out⟩) rfl) (Nat.le_refl _) (by omega)).mono ?_
                    rintro e w4 ⟨rfl, hg4⟩
                    exact ⟨_, rfl, hK _ _ (keepTy_grow _ _ hg4) ⟨hx, rfl⟩⟩
                  · refine stageOf_free rfl (fun us vals w3 a' ha hd => ?_) ?_
                    · obtain ⟨_, d19, _⟩ := hd
                      have q : a'.tmps[82]? = some (us 19) := slot_get ha 19 (by kernel_rfl) (by kernel_rfl)
                      rw [show us 19 = .bool false from d19] at q
                      exact wanted_some rfl rfl q
                    intro us vals w3 a' ha hle hW hd hv K hK
                    obtain ⟨d40, _, _⟩ := hd
                    have q103 : a'.tmps[103]? = some (us 40) := slot_get ha 40 (by kernel_rfl) (by kernel_rfl)
                    have ey : us 40 = .bool true := prW.y hW d40
                    rw [ey] at q103
                    refine step_value (v := .bool false) (w2 := w3) ?_ (hK _ _ (Grow.refl _) rfl)
                    go_simp
                  · refine stageOf_free rfl (fun _ _ _ _ _ _ => wanted_none rfl) ?_
                    intro us vals w3 a' ha hle hW hd hv K hK
                    obtain ⟨d19, d41, _⟩ := hd
                    have q82 : a'.tmps[82]? = some (us 19) := slot_get ha 19 (by kernel_rfl) (by kernel_rfl)
                    rw [show us 19 = .bool false from d19] at q82
                    have q104 : a'.tmps[104]? = some (us 41) := slot_get ha 41 (by kernel_rfl) (by kernel_rfl)
                    rw [show us 41 = .bool false from d41] at q104
                    refine step_value (v := .bool false) (w2 := w3) ?_ (hK _ _ (Grow.refl _) rfl)
                    go_simp
                · intro us vals w5 hle hvl hV hvs hf
                  have u42 : us 42 = .bool false := hf 42 (by decide) rfl
                  exact hMx _ _ (Met.intro (hJx _ _ ⟨us 0, us 1, us 2, us 3, us 4, us 5, us 6, us 7, us 8, us 9, us 10, us 11, us 12, us 13, us 14, us 15, us 16, us 17, us 18, us 19, us 20, us 21, us 22, us 23, us 24, us 25, us 26, us 27, us 28, us 29, us 30, us 31, us 32, us 33, us 34, us 35, us 36, us 37, us 38, us 39, us 40, us 41, us 42, ⟨_, rfl, u42, hle.below (Nat.le_refl _)⟩, by kernel_rfl⟩))
              case rest =>
                obtain ⟨W, rfl, rfl, hgW⟩ := hcut
                have HgN := Lib.hid (Hg23.out.trans hgW.out)
                clear hgW
                go_wp2
                go_roundw
                case rel => exact ⟨k + 1, by omega, by go_num, HgN⟩
                case measure => simp [intOf]; omega
            · have d3 : decide ((k : Int) < 24) = false := decide_eq_false (by omega)
              have HgN := Lib.hid (hg.out.trans (HgW2.out.trans hgq.out))
              clear hgq
              go_wp2
              go_roundw
              case rel => exact ⟨n + 1, by omega, by go_num, HgN⟩
              case measure => simp [intOf]; omega
    · have d1 : decide ((n : Int) < 256) = false := decide_eq_false (by omega)
      have Haw := Lib.hid (awake20_any wr)
      go_wp2_with fail
      refine Haw.out.mono ?_
      rintro e w3 ⟨rfl, hg3⟩
      have Hg3 := Lib.hid ((Hg0.out.trans hg.out).trans hg3)
      clear hg3 Haw
      go_wp2
      go_ret
      exact ⟨rfl, Hg3.out⟩
end Go.Proofs.Ythjnggclemhgkaa
