/-
  The walk of mudlarklaw20's moved: one move of a cursor, and of the document's rest beside it. Printed by gen/curmoved.py.
-/
import Derived.Test.YthjnggclemhgkaaCurSmall
import Derived.Test.YthjnggclemhgkaaCurTake
import Derived.Test.YthjnggclemhgkaaCurMake
namespace Go.Proofs.Ythjnggclemhgkaa
open Go.RowKit Go.Shelf CurM
set_option linter.unusedVariables false
attribute [local go_sem] Oper.semAt_some

theorem results_cells2 {P : Program} {fn : Func} {p q : Tmp} {t u : TypeId} (h : fn.results = #[.cell p t, .cell q u]) (tmps : Array Value) (w : World) (g g2 : Nat) (x y : Value)
    (hp : tmps.getD p undef = .pointer (some ⟨g, 0, none⟩)) (hq : tmps.getD q undef = .pointer (some ⟨g2, 0, none⟩)) (hx : (loadVar t ⟨g, 0, none⟩).run P w = .ok x w) (hy : (loadVar u ⟨g2, 0, none⟩).run P w = .ok y w) :
    (results fn tmps).run P w = .ok (.tuple #[x, y]) w := by
  have hp' : tmps[p]?.getD undef = .pointer (some ⟨g, 0, none⟩) := by simpa using hp
  have hq' : tmps[q]?.getD undef = .pointer (some ⟨g2, 0, none⟩) := by simpa using hq
  simp [results, h, hp', hq', asAddr, hx, hy, Sem.run_bind, Result.andThen]
/-- the slice value .slice A n c holds the rest L, in a block that no cursor of F reads or writes -/
def RestAt (w : World) (F : Nat → Prop) (A : Option Addr) (n c : Nat) (L : List Int) : Prop := VecAt w (fun j => ¬ F j) A n c (L.map i64v)
section
variable {w w' : World} {F F' : Nat → Prop} {A : Option Addr} {n c : Nat} {L : List Int}
theorem RestAt.len (h : RestAt w F A n c L) : L.length = n := by have := VecAt.len h; simpa using this
theorem RestAt.moved (h : RestAt w F A n c L) (hk : Keep F w w') (hf : ∀ j, F' j → F j ∨ w.heap.size ≤ j) : RestAt w' F' A n c L :=
  VecAt.kept h hk (fun j hj _ => hj) fun j hj hlt hF => by
    rcases hf j hF with h1 | h1
    · exact hj h1
    · omega
theorem RestAt.drop {k : Nat} (h : RestAt w F A n c L) (hk : k ≤ n) : RestAt w F (cutA A c k 1) (n - k) (c - k) (L.drop k) := by
  have h1 := VecAt.drop h hk
  rw [← List.map_drop] at h1
  exact h1
theorem RestAt.nil (w : World) (F : Nat → Prop) : RestAt w F none 0 0 [] := ⟨rfl, Nat.le_refl _, Nat.zero_le _, fun h => absurd h (by omega)⟩
theorem RestAt.ints (h : RestAt w F A n c L) : IntsAt w w.heap.size A n L := ⟨by have := VecAt.len h; simpa using this, fun hn => by
  obtain ⟨b, off, e, hb, hlt, hc⟩ := VecAt.at_ h hn
  exact ⟨b, off, e, hlt, fun j u hu => hc j u hu⟩⟩
end
/-- what a move tells: the rest behind it -/
def MovedTo (d : Nat) (w : World) (v : Value) (N0 : Nat) (F : Nat → Prop) (e : Ending) (w' : World) : Prop :=
  ∃ A' n' c' L' F', e = .returned (.tuple #[.slice A' n' c', .bool true]) ∧ Cur d w' v L' F' ∧ RestAt w' F' A' n' c' L' ∧ n' ≤ N0 ∧ Keep F w w' ∧ ∀ j, F' j → F j ∨ w.heap.size ≤ j
theorem moved_fin {d : Nat} {w w1 w4 : World} {v : Value} {F F1 S : Nat → Prop} {A' : Option Addr} {n' c' N0 : Nat} {L' : List Int} (hr : RestAt w F A' n' c' L') (hn : n' ≤ N0) (c1 : Cur d w1 v L' F1) (k1 : Keep F w w1) (f1 : ∀ j, F1 j → F j ∨ w.heap.size ≤ j) (hk : Keep S w1 w4) (hS : ∀ j, S j → w.heap.size ≤ j ∧ ¬ F1 j) :
    MovedTo d w v N0 F (.returned (.tuple #[.slice A' n' c', .bool true])) w4 := by
  have h14 : Keep F w w4 := k1.trans hk fun j hj => Or.inr (hS j hj).1
  exact ⟨A', n', c', L', F1, rfl, c1.kept hk fun j hj hs => (hS j hs).2 hj, hr.moved h14 f1, hn, h14, f1⟩
theorem len2 {α : Type} {l : List α} (h : l.length = 2) : ∃ a b, l = [a, b] := by
  match l, h with
  | [a, b], _ => exact ⟨a, b, rfl⟩
theorem len3 {α : Type} {l : List α} (h : l.length = 3) : ∃ a b c, l = [a, b, c] := by
  match l, h with
  | [a, b, c], _ => exact ⟨a, b, c, rfl⟩
theorem len4 {α : Type} {l : List α} (h : l.length = 4) : ∃ a b c d, l = [a, b, c, d] := by
  match l, h with
  | [a, b, c, d], _ => exact ⟨a, b, c, d, rfl⟩
/-- 'return r[n:], SameInts(c.Take(m.N), r[:n])': what stands amid its operations -/
def mvW (d : Nat) (w0 : World) (v : Value) (L2 T : List Int) (F : Nat → Prop) (a2 a3 : Nat) (S : Value) : List Value → World → Prop
  | [], w => Grow w0 w
  | [x], w => CurTo d w0 v L2 F w ∧ ∃ A5 c5, x = .slice A5 T.length c5 ∧ T.length ≤ c5 ∧ c5 ≤ maxLen ∧ IntsAt w w.heap.size A5 T.length T
  | [_, y], w => CurTo d w0 v L2 F w ∧ y = .bool true
  | [_, y, _], w => y = .bool true ∧ Blk w a2 22 #[S] ∧ ∃ F1, Cur d w v L2 F1 ∧ Keep (fun j => F j ∨ j = a2) w0 w ∧ ∀ j, F1 j → F j ∨ w0.heap.size ≤ j
  | [_, _, _, _], w => Blk w a2 22 #[S] ∧ Blk w a3 4 #[.bool true] ∧ ∃ F1, Cur d w v L2 F1 ∧ Keep (fun j => F j ∨ j = a2 ∨ j = a3) w0 w ∧ ∀ j, F1 j → F j ∨ w0.heap.size ≤ j
  | _, _ => False
theorem mvW.grow {d : Nat} {w0 : World} {v : Value} {L2 T : List Int} {F : Nat → Prop} {a2 a3 : Nat} {S : Value} : ∀ (vals : List Value) (w w2 : World), Grow w w2 → mvW d w0 v L2 T F a2 a3 S vals w → mvW d w0 v L2 T F a2 a3 S vals w2
  | [], _, _, hg, h => Grow.trans h hg
  | [_], _, _, hg, ⟨h, A5, c5, h1, h2, h3, h4⟩ => ⟨h.more hg, A5, c5, h1, h2, h3, (IntsAt.below h4 hg).more hg.size⟩
  | [_, _], _, _, hg, h => ⟨h.1.more hg, h.2⟩
  | [_, _, _], _, _, hg, ⟨h0, h1, F1, h2, h3, h4⟩ => ⟨h0, Keep.blkOf hg h1, F1, h2.grow hg, h3.trans' (Keep.grow hg), h4⟩
  | [_, _, _, _], _, _, hg, ⟨h0, h1, F1, h2, h3, h4⟩ => ⟨Keep.blkOf hg h0, Keep.blkOf hg h1, F1, h2.grow hg, h3.trans' (Keep.grow hg), h4⟩
  | _ :: _ :: _ :: _ :: _ :: _, _, _, _, h => h.elim
theorem IntsAt.head {w : World} {B n k : Nat} {A : Option Addr} {l : List Int} (h : IntsAt w B A n l) (hk : k ≤ n) : IntsAt w B A k (l.take k) := by
  have h1 := ReadsAt.head (s := 1) h k hk
  rw [Nat.mul_one, ← List.map_take] at h1
  exact h1
/-- what the rounds of 'for x := range c.All()' keep -/
structure MvI (w : World) (F0 : Nat → Prop) (D lp : Nat) (o : Obj) (R : Value) (what N : Int) (kv S b : Value) (F : Nat → Prop) (W : World) : Prop where
  loop : W.heap[lp]? = some o
  defers : W.heap[D]? = some (.deferred (some []))
  rb : Blk W w.heap.size 22 #[R]
  mb : Blk W (w.heap.size + 1) 36 #[.int .i64 what, .int .i64 N]
  ob : Blk W (w.heap.size + 1 + 1) 22 #[S]
  bb : Blk W (w.heap.size + 1 + 1 + 1) 4 #[b]
  kb : Blk W (w.heap.size + 1 + 1 + 1 + 1) 3 #[kv]
  keep : Keep F0 w W
  from_ : ∀ j, F j → F0 j ∨ w.heap.size ≤ j
  off : ∀ j, j = lp ∨ j = D ∨ w.heap.size ≤ j ∧ j ≤ w.heap.size + 4 → ¬ F j
theorem MvI.moved {w W W' : World} {F0 F F' : Nat → Prop} {D lp : Nat} {o : Obj} {R : Value} {what N : Int} {kv S b : Value} (h : MvI w F0 D lp o R what N kv S b F W) (hk : Keep F W W') (hf : ∀ j, F' j → F j ∨ W.heap.size ≤ j) : MvI w F0 D lp o R what N kv S b F' W' := by
  have ht : ∀ j, j < W.heap.size → ¬ F j → ¬ F' j := fun j hj hn hf' => by
    rcases hf j hf' with h | h
    · exact hn h
    · omega
  have hz := h.kb.lt
  refine ⟨hk.obj h.loop (h.off _ (Or.inl rfl)), hk.obj h.defers (h.off _ (Or.inr (Or.inl rfl))), hk.blk h.rb (h.off _ (by omega)), hk.blk h.mb (h.off _ (by omega)), hk.blk h.ob (h.off _ (by omega)), hk.blk h.bb (h.off _ (by omega)), hk.blk h.kb (h.off _ (by omega)), h.keep.trans hk fun j hj => h.from_ j hj, fun j hj => ?_, fun j hj => ht j ?_ (h.off j hj)⟩
  · rcases hf j hj with h1 | h1
    · exact h.from_ j h1
    · exact Or.inr (Nat.le_trans h.keep.size h1)
  · rcases hj with rfl | rfl | hj
    · exact (Array.getElem?_eq_some_iff.1 h.loop).1
    · exact (Array.getElem?_eq_some_iff.1 h.defers).1
    · omega
/-- the rounds have come to a 'return' -/
def MvN (d : Nat) (w : World) (v : Value) (F0 : Nat → Prop) (D lp : Nat) (o : Obj) (R : Value) (what N : Int) (L : List Int) (S : Nat → Value) (W : World) : Prop := ∃ (k : Nat) (F : Nat → Prop), k ≤ L.length ∧ MvI w F0 D lp o R what N (.int .i64 (k : Int)) (S k) (.bool true) F W ∧ Cur d W v (L.drop k) F
/-- 'return nil, k == len(r)' -/
def m19W (w0 : World) (a2 a3 : Nat) : List Value → World → Prop
  | [], w => Blk w a2 22 #[.slice none 0 0] ∧ Blk w a3 4 #[.bool false] ∧ Keep (fun j => j = a2 ∨ j = a3) w0 w
  | [_], w => Blk w a2 22 #[.slice none 0 0] ∧ Blk w a3 4 #[.bool false] ∧ Keep (fun j => j = a2 ∨ j = a3) w0 w
  | [_, _], w => Blk w a2 22 #[.slice none 0 0] ∧ Blk w a3 4 #[.bool true] ∧ Keep (fun j => j = a2 ∨ j = a3) w0 w
  | _, _ => False
theorem m19W.grow {w0 : World} {a2 a3 : Nat} : ∀ (vals : List Value) (w w2 : World), Grow w w2 → m19W w0 a2 a3 vals w → m19W w0 a2 a3 vals w2
  | [], _, _, hg, h => ⟨Keep.blkOf hg h.1, Keep.blkOf hg h.2.1, h.2.2.trans' (Keep.grow hg)⟩
  | [_], _, _, hg, h => ⟨Keep.blkOf hg h.1, Keep.blkOf hg h.2.1, h.2.2.trans' (Keep.grow hg)⟩
  | [_, _], _, _, hg, h => ⟨Keep.blkOf hg h.1, Keep.blkOf hg h.2.1, h.2.2.trans' (Keep.grow hg)⟩
  | _ :: _ :: _ :: _, _, _, _, h => h.elim
set_option maxRecDepth 100000 in
set_option maxHeartbeats 4000000 in
theorem moved_0n (d : Nat) (w : World) (v : Value) (L : List Int) (F : Nat → Prop) (A : Option Addr) (n c : Nat) (what N : Int) (h : Cur d w v L F) (hr : RestAt w F A n c L) (hn : n ≤ 17592186044415) (hw : W64 what) (hN : W64 N) (hmm : pickI what 4 = 0) (hs : N < 0) :
    Calls Try.prog 9 #[v, .slice A n c, .agg #[.int .i64 what, .int .i64 N]] w (MovedTo d w v n F) := by
  have intsTy : AppTy Try.prog 22 3 (.int .i64 0) 1 8 := AppTy.mk' Try.underlying22 (by kernel_rfl) rfl (by decide)
  obtain ⟨p, rfl⟩ := h.isPtr
  have hlt0 := h.lt
  have hlen := hr.len
  have hnc : n ≤ c := VecAt.cap hr
  obtain ⟨kk, hkk⟩ : ∃ kk : Nat, kk = min N.toNat n := ⟨_, rfl⟩
  have hkn : kk ≤ n := by omega
  unfold W64 at hw hN
  have Hpick := Lib.hid (fun W => Pick_nat what 4 0 W hmm hw.1 hw.2 (by omega))
  have H := Lib.hid h
  have Hr := Lib.hid hr
  have Hkk := Lib.hid hkk
  have Hlen := Lib.hid hlen
  clear h hr hkk hlen hmm hw
  refine (callsIn_wide (n := 4)).1 ?_
  refine callsIn_of_wp_marks Try.func9 rfl trivial ?_ rfl
  simp only [Try.ntmps9, List.size_toArray, List.length_cons, List.length_nil, Nat.reduceSub, Nat.reduceAdd, Array.replicate_succ, Array.replicate_zero, List.push_toArray, List.append_toArray, List.nil_append, List.cons_append]
  gi_wp2_with (refine ⟨trivial, ?_⟩; gi_at_call 17; refine (callsIn_wide.2 (Hpick.out _)).mono ?_; rintro e w' ⟨rfl, rfl⟩)
  obtain ⟨W0, hW0⟩ : ∃ W0, (((w.alloc (.cells #[.slice A n c] 22)).alloc (.cells #[.int .i64 what, .int .i64 N] 36)).alloc (.cells #[.slice none 0 0] 22)).alloc (.cells #[.bool false] 4) = W0 := ⟨_, rfl⟩
  have hG0 : Grow w W0 := by rw [← hW0]; exact (((Grow.alloc _ _).trans (Grow.alloc _ _)).trans (Grow.alloc _ _)).trans (Grow.alloc _ _)
  have hbR : Blk W0 w.heap.size 22 #[.slice A n c] := by rw [← hW0]; exact (((Blk.new _ _ _).alloc _).alloc _).alloc _
  have hbM : Blk W0 (w.heap.size + 1) 36 #[.int .i64 what, .int .i64 N] := by
    rw [← hW0]
    have := Blk.new (w.alloc (.cells #[.slice A n c] 22)) 36 #[.int .i64 what, .int .i64 N]
    simp at this
    exact (this.alloc _).alloc _
  have hbO : Blk W0 (w.heap.size + 1 + 1) 22 #[.slice none 0 0] := by
    rw [← hW0]
    have := Blk.new ((w.alloc (.cells #[.slice A n c] 22)).alloc (.cells #[.int .i64 what, .int .i64 N] 36)) 22 #[.slice none 0 0]
    simp at this
    exact this.alloc _
  have hbB : Blk W0 (w.heap.size + 1 + 1 + 1) 4 #[.bool false] := by
    rw [← hW0]
    have := Blk.new (((w.alloc (.cells #[.slice A n c] 22)).alloc (.cells #[.int .i64 what, .int .i64 N] 36)).alloc (.cells #[.slice none 0 0] 22)) 4 #[.bool false]
    simpa using this
  have Hz0 := Lib.hid (show W0.heap.size = w.heap.size + 1 + 1 + 1 + 1 by rw [← hW0]; simp)
  try rw [hW0]
  clear hW0
  have hzB := hbB.lt
  have H0 := Lib.hid (H.out.grow hG0)
  have Hnx := Lib.hid (next_any (curOk d) W0 _ _ F H0.out)
  refine ⟨trivial, ?_⟩
  gi_at_call 29
  refine (callsIn_wide.2 Hnx.out).mono ?_
  rintro e w1 ⟨rfl, F1, h1, k1, f1⟩
  have hb1R := k1.blk hbR (fun hF => by have := hlt0 _ hF; omega)
  have hb1M := k1.blk hbM (fun hF => by have := hlt0 _ hF; omega)
  have hb1O := k1.blk hbO (fun hF => by have := hlt0 _ hF; omega)
  have hb1B := k1.blk hbB (fun hF => by have := hlt0 _ hF; omega)
  have Hoff := Lib.hid (show ∀ j, w.heap.size ≤ j → j < W0.heap.size → ¬ F1 j from fun j h1 h2 hF => by
    rcases f1 j hF with h | h
    · have := hlt0 j h
      omega
    · omega)
  have HK0 := Lib.hid (show Keep F w w1 from (Keep.grow (S := F) hG0).trans' k1)
  have Hf0 := Lib.hid (show ∀ j, F1 j → F j ∨ w.heap.size ≤ j from fun j hF => by
    rcases f1 j hF with h | h
    · exact Or.inl h
    · exact Or.inr (by have := hG0.size; omega))
  have hcR := hb1R.cell 0
  have hcM0 := hb1M.cell 0
  have hcM1 := hb1M.cell 1
  have hcO := hb1O.cell 0
  have hcB := hb1B.cell 0
  have hfO := hb1O.frozen 0
  have hfB := hb1B.frozen 0
  have Hb1O := Lib.hid hb1O
  have Hb1B := Lib.hid hb1B
  clear hb1R hb1M hb1O hb1B
  clear k1 f1 Hnx hbR hbM hbO hbB
  by_cases hn0 : n < 1
  · have d1 : decide ((n : Int) < 1) = true := decide_eq_true (by omega)
    have hL : L.tail = L.drop 0 := by
      have := Hlen.out
      rw [List.eq_nil_of_length_eq_zero (show L.length = 0 by omega)]
      rfl
    rw [hL] at h1
    have H1 := Lib.hid h1
    have hcut := fun W => run_cut_tail intsTy A n c 0 .i64 (n : Int) (by omega) (Nat.zero_le _) W
    clear h1 hL
    gi_wp2
    have hO4 : Blk ((w1.setCell ⟨w.heap.size + 1 + 1, 0, none⟩ (.slice (cutA A c 0 1) (n - 0) (c - 0))).setCell ⟨w.heap.size + 1 + 1 + 1, 0, none⟩ (.bool true)) (w.heap.size + 1 + 1) 22 #[.slice (cutA A c 0 1) (n - 0) (c - 0)] := (Hb1O.out.set 0 (.slice (cutA A c 0 1) (n - 0) (c - 0))).far (by simp) _
    have hB4 : Blk ((w1.setCell ⟨w.heap.size + 1 + 1, 0, none⟩ (.slice (cutA A c 0 1) (n - 0) (c - 0))).setCell ⟨w.heap.size + 1 + 1 + 1, 0, none⟩ (.bool true)) (w.heap.size + 1 + 1 + 1) 4 #[.bool true] := (Hb1B.out.far (p := ⟨w.heap.size + 1 + 1, 0, none⟩) (by simp) (.slice (cutA A c 0 1) (n - 0) (c - 0))).set 0 (.bool true)
    have hc1 := hO4.cell 0
    have hc2 := hB4.cell 0
    have hk4 : Keep (fun j => j = w.heap.size + 1 + 1 ∨ j = w.heap.size + 1 + 1 + 1) w1 ((w1.setCell ⟨w.heap.size + 1 + 1, 0, none⟩ (.slice (cutA A c 0 1) (n - 0) (c - 0))).setCell ⟨w.heap.size + 1 + 1 + 1, 0, none⟩ (.bool true)) := ((Keep.setCell w1 ⟨w.heap.size + 1 + 1, 0, none⟩ (.slice (cutA A c 0 1) (n - 0) (c - 0))).mono fun j hj => Or.inl (Or.inl hj)).trans' ((Keep.setCell _ ⟨w.heap.size + 1 + 1 + 1, 0, none⟩ (.bool true)).mono fun j hj => Or.inl (Or.inr hj))
    exact ⟨_, results_cells2 rfl _ _ (w.heap.size + 1 + 1) (w.heap.size + 1 + 1 + 1) (.slice (cutA A c 0 1) (n - 0) (c - 0)) (.bool true) rfl rfl (by go_simp) (by go_simp), moved_fin (Hr.out.drop (Nat.zero_le _)) (Nat.sub_le _ _) H1.out HK0.out Hf0.out hk4 (fun j hj => ⟨by omega, Hoff.out j (by omega) (by omega)⟩)⟩
  · have d1 : decide ((n : Int) < 1) = false := decide_eq_false (by omega)
    have hn1 : 1 ≤ n := by omega
    rw [← List.drop_one] at h1
    have H1 := Lib.hid h1
    have hcut := fun W => run_cut_tail intsTy A n c 1 .i64 1 rfl hn1 W
    clear h1
    gi_wp2
    have hO4 : Blk ((w1.setCell ⟨w.heap.size + 1 + 1, 0, none⟩ (.slice (cutA A c 1 1) (n - 1) (c - 1))).setCell ⟨w.heap.size + 1 + 1 + 1, 0, none⟩ (.bool true)) (w.heap.size + 1 + 1) 22 #[.slice (cutA A c 1 1) (n - 1) (c - 1)] := (Hb1O.out.set 0 (.slice (cutA A c 1 1) (n - 1) (c - 1))).far (by simp) _
    have hB4 : Blk ((w1.setCell ⟨w.heap.size + 1 + 1, 0, none⟩ (.slice (cutA A c 1 1) (n - 1) (c - 1))).setCell ⟨w.heap.size + 1 + 1 + 1, 0, none⟩ (.bool true)) (w.heap.size + 1 + 1 + 1) 4 #[.bool true] := (Hb1B.out.far (p := ⟨w.heap.size + 1 + 1, 0, none⟩) (by simp) (.slice (cutA A c 1 1) (n - 1) (c - 1))).set 0 (.bool true)
    have hc1 := hO4.cell 0
    have hc2 := hB4.cell 0
    have hk4 : Keep (fun j => j = w.heap.size + 1 + 1 ∨ j = w.heap.size + 1 + 1 + 1) w1 ((w1.setCell ⟨w.heap.size + 1 + 1, 0, none⟩ (.slice (cutA A c 1 1) (n - 1) (c - 1))).setCell ⟨w.heap.size + 1 + 1 + 1, 0, none⟩ (.bool true)) := ((Keep.setCell w1 ⟨w.heap.size + 1 + 1, 0, none⟩ (.slice (cutA A c 1 1) (n - 1) (c - 1))).mono fun j hj => Or.inl (Or.inl hj)).trans' ((Keep.setCell _ ⟨w.heap.size + 1 + 1 + 1, 0, none⟩ (.bool true)).mono fun j hj => Or.inl (Or.inr hj))
    exact ⟨_, results_cells2 rfl _ _ (w.heap.size + 1 + 1) (w.heap.size + 1 + 1 + 1) (.slice (cutA A c 1 1) (n - 1) (c - 1)) (.bool true) rfl rfl (by go_simp) (by go_simp), moved_fin (Hr.out.drop hn1) (Nat.sub_le _ _) H1.out HK0.out Hf0.out hk4 (fun j hj => ⟨by omega, Hoff.out j (by omega) (by omega)⟩)⟩
set_option maxRecDepth 100000 in
set_option maxHeartbeats 4000000 in
theorem moved_0p (d : Nat) (w : World) (v : Value) (L : List Int) (F : Nat → Prop) (A : Option Addr) (n c : Nat) (what N : Int) (h : Cur d w v L F) (hr : RestAt w F A n c L) (hn : n ≤ 17592186044415) (hw : W64 what) (hN : W64 N) (hmm : pickI what 4 = 0) (hs : 0 ≤ N) :
    Calls Try.prog 9 #[v, .slice A n c, .agg #[.int .i64 what, .int .i64 N]] w (MovedTo d w v n F) := by
  have intsTy : AppTy Try.prog 22 3 (.int .i64 0) 1 8 := AppTy.mk' Try.underlying22 (by kernel_rfl) rfl (by decide)
  obtain ⟨p, rfl⟩ := h.isPtr
  have hlt0 := h.lt
  have hlen := hr.len
  have hnc : n ≤ c := VecAt.cap hr
  obtain ⟨kk, hkk⟩ : ∃ kk : Nat, kk = min N.toNat n := ⟨_, rfl⟩
  have hkn : kk ≤ n := by omega
  have hm : (if (n : Int) < N then (n : Int) else N) = (kk : Int) := by split <;> omega
  have Hm := Lib.hid hm
  clear hm
  unfold W64 at hw hN
  have Hpick := Lib.hid (fun W => Pick_nat what 4 0 W hmm hw.1 hw.2 (by omega))
  have H := Lib.hid h
  have Hr := Lib.hid hr
  have Hkk := Lib.hid hkk
  have Hlen := Lib.hid hlen
  clear h hr hkk hlen hmm hw
  refine (callsIn_wide (n := 4)).1 ?_
  refine callsIn_of_wp_marks Try.func9 rfl trivial ?_ rfl
  simp only [Try.ntmps9, List.size_toArray, List.length_cons, List.length_nil, Nat.reduceSub, Nat.reduceAdd, Array.replicate_succ, Array.replicate_zero, List.push_toArray, List.append_toArray, List.nil_append, List.cons_append]
  gi_wp2_with (refine ⟨trivial, ?_⟩; rw [Hm.out]; gi_at_call 17; refine (callsIn_wide.2 (Hpick.out _)).mono ?_; rintro e w' ⟨rfl, rfl⟩)
  obtain ⟨W0, hW0⟩ : ∃ W0, (((w.alloc (.cells #[.slice A n c] 22)).alloc (.cells #[.int .i64 what, .int .i64 N] 36)).alloc (.cells #[.slice none 0 0] 22)).alloc (.cells #[.bool false] 4) = W0 := ⟨_, rfl⟩
  have hG0 : Grow w W0 := by rw [← hW0]; exact (((Grow.alloc _ _).trans (Grow.alloc _ _)).trans (Grow.alloc _ _)).trans (Grow.alloc _ _)
  have hbR : Blk W0 w.heap.size 22 #[.slice A n c] := by rw [← hW0]; exact (((Blk.new _ _ _).alloc _).alloc _).alloc _
  have hbM : Blk W0 (w.heap.size + 1) 36 #[.int .i64 what, .int .i64 N] := by
    rw [← hW0]
    have := Blk.new (w.alloc (.cells #[.slice A n c] 22)) 36 #[.int .i64 what, .int .i64 N]
    simp at this
    exact (this.alloc _).alloc _
  have hbO : Blk W0 (w.heap.size + 1 + 1) 22 #[.slice none 0 0] := by
    rw [← hW0]
    have := Blk.new ((w.alloc (.cells #[.slice A n c] 22)).alloc (.cells #[.int .i64 what, .int .i64 N] 36)) 22 #[.slice none 0 0]
    simp at this
    exact this.alloc _
  have hbB : Blk W0 (w.heap.size + 1 + 1 + 1) 4 #[.bool false] := by
    rw [← hW0]
    have := Blk.new (((w.alloc (.cells #[.slice A n c] 22)).alloc (.cells #[.int .i64 what, .int .i64 N] 36)).alloc (.cells #[.slice none 0 0] 22)) 4 #[.bool false]
    simpa using this
  have Hz0 := Lib.hid (show W0.heap.size = w.heap.size + 1 + 1 + 1 + 1 by rw [← hW0]; simp)
  try rw [hW0]
  clear hW0
  have hzB := hbB.lt
  have H0 := Lib.hid (H.out.grow hG0)
  have Hnx := Lib.hid (next_any (curOk d) W0 _ _ F H0.out)
  refine ⟨trivial, ?_⟩
  gi_at_call 29
  refine (callsIn_wide.2 Hnx.out).mono ?_
  rintro e w1 ⟨rfl, F1, h1, k1, f1⟩
  have hb1R := k1.blk hbR (fun hF => by have := hlt0 _ hF; omega)
  have hb1M := k1.blk hbM (fun hF => by have := hlt0 _ hF; omega)
  have hb1O := k1.blk hbO (fun hF => by have := hlt0 _ hF; omega)
  have hb1B := k1.blk hbB (fun hF => by have := hlt0 _ hF; omega)
  have Hoff := Lib.hid (show ∀ j, w.heap.size ≤ j → j < W0.heap.size → ¬ F1 j from fun j h1 h2 hF => by
    rcases f1 j hF with h | h
    · have := hlt0 j h
      omega
    · omega)
  have HK0 := Lib.hid (show Keep F w w1 from (Keep.grow (S := F) hG0).trans' k1)
  have Hf0 := Lib.hid (show ∀ j, F1 j → F j ∨ w.heap.size ≤ j from fun j hF => by
    rcases f1 j hF with h | h
    · exact Or.inl h
    · exact Or.inr (by have := hG0.size; omega))
  have hcR := hb1R.cell 0
  have hcM0 := hb1M.cell 0
  have hcM1 := hb1M.cell 1
  have hcO := hb1O.cell 0
  have hcB := hb1B.cell 0
  have hfO := hb1O.frozen 0
  have hfB := hb1B.frozen 0
  have Hb1O := Lib.hid hb1O
  have Hb1B := Lib.hid hb1B
  clear hb1R hb1M hb1O hb1B
  clear k1 f1 Hnx hbR hbM hbO hbB
  by_cases hn0 : n < 1
  · have d1 : decide ((n : Int) < 1) = true := decide_eq_true (by omega)
    have hL : L.tail = L.drop 0 := by
      have := Hlen.out
      rw [List.eq_nil_of_length_eq_zero (show L.length = 0 by omega)]
      rfl
    rw [hL] at h1
    have H1 := Lib.hid h1
    have hcut := fun W => run_cut_tail intsTy A n c 0 .i64 (n : Int) (by omega) (Nat.zero_le _) W
    clear h1 hL
    gi_wp2
    have hO4 : Blk ((w1.setCell ⟨w.heap.size + 1 + 1, 0, none⟩ (.slice (cutA A c 0 1) (n - 0) (c - 0))).setCell ⟨w.heap.size + 1 + 1 + 1, 0, none⟩ (.bool true)) (w.heap.size + 1 + 1) 22 #[.slice (cutA A c 0 1) (n - 0) (c - 0)] := (Hb1O.out.set 0 (.slice (cutA A c 0 1) (n - 0) (c - 0))).far (by simp) _
    have hB4 : Blk ((w1.setCell ⟨w.heap.size + 1 + 1, 0, none⟩ (.slice (cutA A c 0 1) (n - 0) (c - 0))).setCell ⟨w.heap.size + 1 + 1 + 1, 0, none⟩ (.bool true)) (w.heap.size + 1 + 1 + 1) 4 #[.bool true] := (Hb1B.out.far (p := ⟨w.heap.size + 1 + 1, 0, none⟩) (by simp) (.slice (cutA A c 0 1) (n - 0) (c - 0))).set 0 (.bool true)
    have hc1 := hO4.cell 0
    have hc2 := hB4.cell 0
    have hk4 : Keep (fun j => j = w.heap.size + 1 + 1 ∨ j = w.heap.size + 1 + 1 + 1) w1 ((w1.setCell ⟨w.heap.size + 1 + 1, 0, none⟩ (.slice (cutA A c 0 1) (n - 0) (c - 0))).setCell ⟨w.heap.size + 1 + 1 + 1, 0, none⟩ (.bool true)) := ((Keep.setCell w1 ⟨w.heap.size + 1 + 1, 0, none⟩ (.slice (cutA A c 0 1) (n - 0) (c - 0))).mono fun j hj => Or.inl (Or.inl hj)).trans' ((Keep.setCell _ ⟨w.heap.size + 1 + 1 + 1, 0, none⟩ (.bool true)).mono fun j hj => Or.inl (Or.inr hj))
    exact ⟨_, results_cells2 rfl _ _ (w.heap.size + 1 + 1) (w.heap.size + 1 + 1 + 1) (.slice (cutA A c 0 1) (n - 0) (c - 0)) (.bool true) rfl rfl (by go_simp) (by go_simp), moved_fin (Hr.out.drop (Nat.zero_le _)) (Nat.sub_le _ _) H1.out HK0.out Hf0.out hk4 (fun j hj => ⟨by omega, Hoff.out j (by omega) (by omega)⟩)⟩
  · have d1 : decide ((n : Int) < 1) = false := decide_eq_false (by omega)
    have hn1 : 1 ≤ n := by omega
    rw [← List.drop_one] at h1
    have H1 := Lib.hid h1
    have hcut := fun W => run_cut_tail intsTy A n c 1 .i64 1 rfl hn1 W
    clear h1
    gi_wp2
    have hO4 : Blk ((w1.setCell ⟨w.heap.size + 1 + 1, 0, none⟩ (.slice (cutA A c 1 1) (n - 1) (c - 1))).setCell ⟨w.heap.size + 1 + 1 + 1, 0, none⟩ (.bool true)) (w.heap.size + 1 + 1) 22 #[.slice (cutA A c 1 1) (n - 1) (c - 1)] := (Hb1O.out.set 0 (.slice (cutA A c 1 1) (n - 1) (c - 1))).far (by simp) _
    have hB4 : Blk ((w1.setCell ⟨w.heap.size + 1 + 1, 0, none⟩ (.slice (cutA A c 1 1) (n - 1) (c - 1))).setCell ⟨w.heap.size + 1 + 1 + 1, 0, none⟩ (.bool true)) (w.heap.size + 1 + 1 + 1) 4 #[.bool true] := (Hb1B.out.far (p := ⟨w.heap.size + 1 + 1, 0, none⟩) (by simp) (.slice (cutA A c 1 1) (n - 1) (c - 1))).set 0 (.bool true)
    have hc1 := hO4.cell 0
    have hc2 := hB4.cell 0
    have hk4 : Keep (fun j => j = w.heap.size + 1 + 1 ∨ j = w.heap.size + 1 + 1 + 1) w1 ((w1.setCell ⟨w.heap.size + 1 + 1, 0, none⟩ (.slice (cutA A c 1 1) (n - 1) (c - 1))).setCell ⟨w.heap.size + 1 + 1 + 1, 0, none⟩ (.bool true)) := ((Keep.setCell w1 ⟨w.heap.size + 1 + 1, 0, none⟩ (.slice (cutA A c 1 1) (n - 1) (c - 1))).mono fun j hj => Or.inl (Or.inl hj)).trans' ((Keep.setCell _ ⟨w.heap.size + 1 + 1 + 1, 0, none⟩ (.bool true)).mono fun j hj => Or.inl (Or.inr hj))
    exact ⟨_, results_cells2 rfl _ _ (w.heap.size + 1 + 1) (w.heap.size + 1 + 1 + 1) (.slice (cutA A c 1 1) (n - 1) (c - 1)) (.bool true) rfl rfl (by go_simp) (by go_simp), moved_fin (Hr.out.drop hn1) (Nat.sub_le _ _) H1.out HK0.out Hf0.out hk4 (fun j hj => ⟨by omega, Hoff.out j (by omega) (by omega)⟩)⟩
set_option maxRecDepth 100000 in
set_option maxHeartbeats 4000000 in
theorem moved_1n (d : Nat) (w : World) (v : Value) (L : List Int) (F : Nat → Prop) (A : Option Addr) (n c : Nat) (what N : Int) (h : Cur d w v L F) (hr : RestAt w F A n c L) (hn : n ≤ 17592186044415) (hw : W64 what) (hN : W64 N) (hmm : pickI what 4 = 1) (hs : N < 0) :
    Calls Try.prog 9 #[v, .slice A n c, .agg #[.int .i64 what, .int .i64 N]] w (MovedTo d w v n F) := by
  have intsTy : AppTy Try.prog 22 3 (.int .i64 0) 1 8 := AppTy.mk' Try.underlying22 (by kernel_rfl) rfl (by decide)
  obtain ⟨p, rfl⟩ := h.isPtr
  have hlt0 := h.lt
  have hlen := hr.len
  have hnc : n ≤ c := VecAt.cap hr
  obtain ⟨kk, hkk⟩ : ∃ kk : Nat, kk = min N.toNat n := ⟨_, rfl⟩
  have hkn : kk ≤ n := by omega
  unfold W64 at hw hN
  have Hpick := Lib.hid (fun W => Pick_nat what 4 1 W hmm hw.1 hw.2 (by omega))
  have H := Lib.hid h
  have Hr := Lib.hid hr
  have Hkk := Lib.hid hkk
  have Hlen := Lib.hid hlen
  clear h hr hkk hlen hmm hw
  refine (callsIn_wide (n := 4)).1 ?_
  refine callsIn_of_wp_marks Try.func9 rfl trivial ?_ rfl
  simp only [Try.ntmps9, List.size_toArray, List.length_cons, List.length_nil, Nat.reduceSub, Nat.reduceAdd, Array.replicate_succ, Array.replicate_zero, List.push_toArray, List.append_toArray, List.nil_append, List.cons_append]
  gi_wp2_with (refine ⟨trivial, ?_⟩; gi_at_call 17; refine (callsIn_wide.2 (Hpick.out _)).mono ?_; rintro e w' ⟨rfl, rfl⟩)
  obtain ⟨W0, hW0⟩ : ∃ W0, (((w.alloc (.cells #[.slice A n c] 22)).alloc (.cells #[.int .i64 what, .int .i64 N] 36)).alloc (.cells #[.slice none 0 0] 22)).alloc (.cells #[.bool false] 4) = W0 := ⟨_, rfl⟩
  have hG0 : Grow w W0 := by rw [← hW0]; exact (((Grow.alloc _ _).trans (Grow.alloc _ _)).trans (Grow.alloc _ _)).trans (Grow.alloc _ _)
  have hbR : Blk W0 w.heap.size 22 #[.slice A n c] := by rw [← hW0]; exact (((Blk.new _ _ _).alloc _).alloc _).alloc _
  have hbM : Blk W0 (w.heap.size + 1) 36 #[.int .i64 what, .int .i64 N] := by
    rw [← hW0]
    have := Blk.new (w.alloc (.cells #[.slice A n c] 22)) 36 #[.int .i64 what, .int .i64 N]
    simp at this
    exact (this.alloc _).alloc _
  have hbO : Blk W0 (w.heap.size + 1 + 1) 22 #[.slice none 0 0] := by
    rw [← hW0]
    have := Blk.new ((w.alloc (.cells #[.slice A n c] 22)).alloc (.cells #[.int .i64 what, .int .i64 N] 36)) 22 #[.slice none 0 0]
    simp at this
    exact this.alloc _
  have hbB : Blk W0 (w.heap.size + 1 + 1 + 1) 4 #[.bool false] := by
    rw [← hW0]
    have := Blk.new (((w.alloc (.cells #[.slice A n c] 22)).alloc (.cells #[.int .i64 what, .int .i64 N] 36)).alloc (.cells #[.slice none 0 0] 22)) 4 #[.bool false]
    simpa using this
  have Hz0 := Lib.hid (show W0.heap.size = w.heap.size + 1 + 1 + 1 + 1 by rw [← hW0]; simp)
  try rw [hW0]
  clear hW0
  have hzB := hbB.lt
  have H0 := Lib.hid (H.out.grow hG0)
  have Hsk := Lib.hid ((curOk d).seek W0 _ _ F N H0.out ⟨by omega, by omega⟩)
  refine ⟨trivial, ?_⟩
  gi_at_call 26
  refine (callsIn_wide.2 Hsk.out).mono ?_
  rintro e w1 ⟨rfl, F1, h1, k1, f1⟩
  have hb1R := k1.blk hbR (fun hF => by have := hlt0 _ hF; omega)
  have hb1M := k1.blk hbM (fun hF => by have := hlt0 _ hF; omega)
  have hb1O := k1.blk hbO (fun hF => by have := hlt0 _ hF; omega)
  have hb1B := k1.blk hbB (fun hF => by have := hlt0 _ hF; omega)
  have Hoff := Lib.hid (show ∀ j, w.heap.size ≤ j → j < W0.heap.size → ¬ F1 j from fun j h1 h2 hF => by
    rcases f1 j hF with h | h
    · have := hlt0 j h
      omega
    · omega)
  have HK0 := Lib.hid (show Keep F w w1 from (Keep.grow (S := F) hG0).trans' k1)
  have Hf0 := Lib.hid (show ∀ j, F1 j → F j ∨ w.heap.size ≤ j from fun j hF => by
    rcases f1 j hF with h | h
    · exact Or.inl h
    · exact Or.inr (by have := hG0.size; omega))
  have hcR := hb1R.cell 0
  have hcM0 := hb1M.cell 0
  have hcM1 := hb1M.cell 1
  have hcO := hb1O.cell 0
  have hcB := hb1B.cell 0
  have hfO := hb1O.frozen 0
  have hfB := hb1B.frozen 0
  have Hb1O := Lib.hid hb1O
  have Hb1B := Lib.hid hb1B
  clear hb1R hb1M hb1O hb1B
  clear k1 f1 Hsk hbR hbM hbO hbB
  have Hrs := Lib.hid (refSeek_any w1 w1.heap.size A n c L N (Hr.out.moved HK0.out Hf0.out).ints (by omega))
  have H1 := Lib.hid h1
  clear h1
  gi_wp2_with fail
  refine ⟨trivial, ?_⟩
  gi_at_call 27
  refine (callsIn_wide.2 Hrs.out).mono ?_
  rintro e w2 ⟨k, hk, rfl, hsk, rfl⟩
  have h1 := H1.out
  rw [hsk] at h1
  clear H1 Hrs hsk
  have H1 := Lib.hid h1
  clear h1
  gi_wp2
  have hO4 : Blk ((w1.setCell ⟨w.heap.size + 1 + 1, 0, none⟩ (.slice (cutA A c k 1) (n - k) (c - k))).setCell ⟨w.heap.size + 1 + 1 + 1, 0, none⟩ (.bool true)) (w.heap.size + 1 + 1) 22 #[.slice (cutA A c k 1) (n - k) (c - k)] := (Hb1O.out.set 0 (.slice (cutA A c k 1) (n - k) (c - k))).far (by simp) _
  have hB4 : Blk ((w1.setCell ⟨w.heap.size + 1 + 1, 0, none⟩ (.slice (cutA A c k 1) (n - k) (c - k))).setCell ⟨w.heap.size + 1 + 1 + 1, 0, none⟩ (.bool true)) (w.heap.size + 1 + 1 + 1) 4 #[.bool true] := (Hb1B.out.far (p := ⟨w.heap.size + 1 + 1, 0, none⟩) (by simp) (.slice (cutA A c k 1) (n - k) (c - k))).set 0 (.bool true)
  have hc1 := hO4.cell 0
  have hc2 := hB4.cell 0
  have hk4 : Keep (fun j => j = w.heap.size + 1 + 1 ∨ j = w.heap.size + 1 + 1 + 1) w1 ((w1.setCell ⟨w.heap.size + 1 + 1, 0, none⟩ (.slice (cutA A c k 1) (n - k) (c - k))).setCell ⟨w.heap.size + 1 + 1 + 1, 0, none⟩ (.bool true)) := ((Keep.setCell w1 ⟨w.heap.size + 1 + 1, 0, none⟩ (.slice (cutA A c k 1) (n - k) (c - k))).mono fun j hj => Or.inl (Or.inl hj)).trans' ((Keep.setCell _ ⟨w.heap.size + 1 + 1 + 1, 0, none⟩ (.bool true)).mono fun j hj => Or.inl (Or.inr hj))
  exact ⟨_, results_cells2 rfl _ _ (w.heap.size + 1 + 1) (w.heap.size + 1 + 1 + 1) (.slice (cutA A c k 1) (n - k) (c - k)) (.bool true) rfl rfl (by go_simp) (by go_simp), moved_fin (Hr.out.drop hk) (Nat.sub_le _ _) H1.out HK0.out Hf0.out hk4 (fun j hj => ⟨by omega, Hoff.out j (by omega) (by omega)⟩)⟩
set_option maxRecDepth 100000 in
set_option maxHeartbeats 4000000 in
theorem moved_1p (d : Nat) (w : World) (v : Value) (L : List Int) (F : Nat → Prop) (A : Option Addr) (n c : Nat) (what N : Int) (h : Cur d w v L F) (hr : RestAt w F A n c L) (hn : n ≤ 17592186044415) (hw : W64 what) (hN : W64 N) (hmm : pickI what 4 = 1) (hs : 0 ≤ N) :
    Calls Try.prog 9 #[v, .slice A n c, .agg #[.int .i64 what, .int .i64 N]] w (MovedTo d w v n F) := by
  have intsTy : AppTy Try.prog 22 3 (.int .i64 0) 1 8 := AppTy.mk' Try.underlying22 (by kernel_rfl) rfl (by decide)
  obtain ⟨p, rfl⟩ := h.isPtr
  have hlt0 := h.lt
  have hlen := hr.len
  have hnc : n ≤ c := VecAt.cap hr
  obtain ⟨kk, hkk⟩ : ∃ kk : Nat, kk = min N.toNat n := ⟨_, rfl⟩
  have hkn : kk ≤ n := by omega
  have hm : (if (n : Int) < N then (n : Int) else N) = (kk : Int) := by split <;> omega
  have Hm := Lib.hid hm
  clear hm
  unfold W64 at hw hN
  have Hpick := Lib.hid (fun W => Pick_nat what 4 1 W hmm hw.1 hw.2 (by omega))
  have H := Lib.hid h
  have Hr := Lib.hid hr
  have Hkk := Lib.hid hkk
  have Hlen := Lib.hid hlen
  clear h hr hkk hlen hmm hw
  refine (callsIn_wide (n := 4)).1 ?_
  refine callsIn_of_wp_marks Try.func9 rfl trivial ?_ rfl
  simp only [Try.ntmps9, List.size_toArray, List.length_cons, List.length_nil, Nat.reduceSub, Nat.reduceAdd, Array.replicate_succ, Array.replicate_zero, List.push_toArray, List.append_toArray, List.nil_append, List.cons_append]
  gi_wp2_with (refine ⟨trivial, ?_⟩; rw [Hm.out]; gi_at_call 17; refine (callsIn_wide.2 (Hpick.out _)).mono ?_; rintro e w' ⟨rfl, rfl⟩)
  obtain ⟨W0, hW0⟩ : ∃ W0, (((w.alloc (.cells #[.slice A n c] 22)).alloc (.cells #[.int .i64 what, .int .i64 N] 36)).alloc (.cells #[.slice none 0 0] 22)).alloc (.cells #[.bool false] 4) = W0 := ⟨_, rfl⟩
  have hG0 : Grow w W0 := by rw [← hW0]; exact (((Grow.alloc _ _).trans (Grow.alloc _ _)).trans (Grow.alloc _ _)).trans (Grow.alloc _ _)
  have hbR : Blk W0 w.heap.size 22 #[.slice A n c] := by rw [← hW0]; exact (((Blk.new _ _ _).alloc _).alloc _).alloc _
  have hbM : Blk W0 (w.heap.size + 1) 36 #[.int .i64 what, .int .i64 N] := by
    rw [← hW0]
    have := Blk.new (w.alloc (.cells #[.slice A n c] 22)) 36 #[.int .i64 what, .int .i64 N]
    simp at this
    exact (this.alloc _).alloc _
  have hbO : Blk W0 (w.heap.size + 1 + 1) 22 #[.slice none 0 0] := by
    rw [← hW0]
    have := Blk.new ((w.alloc (.cells #[.slice A n c] 22)).alloc (.cells #[.int .i64 what, .int .i64 N] 36)) 22 #[.slice none 0 0]
    simp at this
    exact this.alloc _
  have hbB : Blk W0 (w.heap.size + 1 + 1 + 1) 4 #[.bool false] := by
    rw [← hW0]
    have := Blk.new (((w.alloc (.cells #[.slice A n c] 22)).alloc (.cells #[.int .i64 what, .int .i64 N] 36)).alloc (.cells #[.slice none 0 0] 22)) 4 #[.bool false]
    simpa using this
  have Hz0 := Lib.hid (show W0.heap.size = w.heap.size + 1 + 1 + 1 + 1 by rw [← hW0]; simp)
  try rw [hW0]
  clear hW0
  have hzB := hbB.lt
  have H0 := Lib.hid (H.out.grow hG0)
  have Hsk := Lib.hid ((curOk d).seek W0 _ _ F N H0.out ⟨by omega, by omega⟩)
  refine ⟨trivial, ?_⟩
  gi_at_call 26
  refine (callsIn_wide.2 Hsk.out).mono ?_
  rintro e w1 ⟨rfl, F1, h1, k1, f1⟩
  have hb1R := k1.blk hbR (fun hF => by have := hlt0 _ hF; omega)
  have hb1M := k1.blk hbM (fun hF => by have := hlt0 _ hF; omega)
  have hb1O := k1.blk hbO (fun hF => by have := hlt0 _ hF; omega)
  have hb1B := k1.blk hbB (fun hF => by have := hlt0 _ hF; omega)
  have Hoff := Lib.hid (show ∀ j, w.heap.size ≤ j → j < W0.heap.size → ¬ F1 j from fun j h1 h2 hF => by
    rcases f1 j hF with h | h
    · have := hlt0 j h
      omega
    · omega)
  have HK0 := Lib.hid (show Keep F w w1 from (Keep.grow (S := F) hG0).trans' k1)
  have Hf0 := Lib.hid (show ∀ j, F1 j → F j ∨ w.heap.size ≤ j from fun j hF => by
    rcases f1 j hF with h | h
    · exact Or.inl h
    · exact Or.inr (by have := hG0.size; omega))
  have hcR := hb1R.cell 0
  have hcM0 := hb1M.cell 0
  have hcM1 := hb1M.cell 1
  have hcO := hb1O.cell 0
  have hcB := hb1B.cell 0
  have hfO := hb1O.frozen 0
  have hfB := hb1B.frozen 0
  have Hb1O := Lib.hid hb1O
  have Hb1B := Lib.hid hb1B
  clear hb1R hb1M hb1O hb1B
  clear k1 f1 Hsk hbR hbM hbO hbB
  have Hrs := Lib.hid (refSeek_any w1 w1.heap.size A n c L N (Hr.out.moved HK0.out Hf0.out).ints (by omega))
  have H1 := Lib.hid h1
  clear h1
  gi_wp2_with fail
  refine ⟨trivial, ?_⟩
  gi_at_call 27
  refine (callsIn_wide.2 Hrs.out).mono ?_
  rintro e w2 ⟨k, hk, rfl, hsk, rfl⟩
  have h1 := H1.out
  rw [hsk] at h1
  clear H1 Hrs hsk
  have H1 := Lib.hid h1
  clear h1
  gi_wp2
  have hO4 : Blk ((w1.setCell ⟨w.heap.size + 1 + 1, 0, none⟩ (.slice (cutA A c k 1) (n - k) (c - k))).setCell ⟨w.heap.size + 1 + 1 + 1, 0, none⟩ (.bool true)) (w.heap.size + 1 + 1) 22 #[.slice (cutA A c k 1) (n - k) (c - k)] := (Hb1O.out.set 0 (.slice (cutA A c k 1) (n - k) (c - k))).far (by simp) _
  have hB4 : Blk ((w1.setCell ⟨w.heap.size + 1 + 1, 0, none⟩ (.slice (cutA A c k 1) (n - k) (c - k))).setCell ⟨w.heap.size + 1 + 1 + 1, 0, none⟩ (.bool true)) (w.heap.size + 1 + 1 + 1) 4 #[.bool true] := (Hb1B.out.far (p := ⟨w.heap.size + 1 + 1, 0, none⟩) (by simp) (.slice (cutA A c k 1) (n - k) (c - k))).set 0 (.bool true)
  have hc1 := hO4.cell 0
  have hc2 := hB4.cell 0
  have hk4 : Keep (fun j => j = w.heap.size + 1 + 1 ∨ j = w.heap.size + 1 + 1 + 1) w1 ((w1.setCell ⟨w.heap.size + 1 + 1, 0, none⟩ (.slice (cutA A c k 1) (n - k) (c - k))).setCell ⟨w.heap.size + 1 + 1 + 1, 0, none⟩ (.bool true)) := ((Keep.setCell w1 ⟨w.heap.size + 1 + 1, 0, none⟩ (.slice (cutA A c k 1) (n - k) (c - k))).mono fun j hj => Or.inl (Or.inl hj)).trans' ((Keep.setCell _ ⟨w.heap.size + 1 + 1 + 1, 0, none⟩ (.bool true)).mono fun j hj => Or.inl (Or.inr hj))
  exact ⟨_, results_cells2 rfl _ _ (w.heap.size + 1 + 1) (w.heap.size + 1 + 1 + 1) (.slice (cutA A c k 1) (n - k) (c - k)) (.bool true) rfl rfl (by go_simp) (by go_simp), moved_fin (Hr.out.drop hk) (Nat.sub_le _ _) H1.out HK0.out Hf0.out hk4 (fun j hj => ⟨by omega, Hoff.out j (by omega) (by omega)⟩)⟩
set_option maxRecDepth 100000 in
set_option maxHeartbeats 4000000 in
theorem moved_2n (d : Nat) (w : World) (v : Value) (L : List Int) (F : Nat → Prop) (A : Option Addr) (n c : Nat) (what N : Int) (h : Cur d w v L F) (hr : RestAt w F A n c L) (hn : n ≤ 17592186044415) (hw : W64 what) (hN : W64 N) (hmm : pickI what 4 = 2) (hs : N < 0) :
    Calls Try.prog 9 #[v, .slice A n c, .agg #[.int .i64 what, .int .i64 N]] w (MovedTo d w v n F) := by
  have intsTy : AppTy Try.prog 22 3 (.int .i64 0) 1 8 := AppTy.mk' Try.underlying22 (by kernel_rfl) rfl (by decide)
  obtain ⟨p, rfl⟩ := h.isPtr
  have hlt0 := h.lt
  have hlen := hr.len
  have hnc : n ≤ c := VecAt.cap hr
  obtain ⟨kk, hkk⟩ : ∃ kk : Nat, kk = min N.toNat n := ⟨_, rfl⟩
  have hkn : kk ≤ n := by omega
  unfold W64 at hw hN
  have Hpick := Lib.hid (fun W => Pick_nat what 4 2 W hmm hw.1 hw.2 (by omega))
  have H := Lib.hid h
  have Hr := Lib.hid hr
  have Hkk := Lib.hid hkk
  have Hlen := Lib.hid hlen
  clear h hr hkk hlen hmm hw
  refine (callsIn_wide (n := 4)).1 ?_
  refine callsIn_of_wp_marks Try.func9 rfl trivial ?_ rfl
  simp only [Try.ntmps9, List.size_toArray, List.length_cons, List.length_nil, Nat.reduceSub, Nat.reduceAdd, Array.replicate_succ, Array.replicate_zero, List.push_toArray, List.append_toArray, List.nil_append, List.cons_append]
  gi_wp2_with (refine ⟨trivial, ?_⟩; gi_at_call 17; refine (callsIn_wide.2 (Hpick.out _)).mono ?_; rintro e w' ⟨rfl, rfl⟩)
  obtain ⟨W0, hW0⟩ : ∃ W0, (((w.alloc (.cells #[.slice A n c] 22)).alloc (.cells #[.int .i64 what, .int .i64 N] 36)).alloc (.cells #[.slice none 0 0] 22)).alloc (.cells #[.bool false] 4) = W0 := ⟨_, rfl⟩
  have hG0 : Grow w W0 := by rw [← hW0]; exact (((Grow.alloc _ _).trans (Grow.alloc _ _)).trans (Grow.alloc _ _)).trans (Grow.alloc _ _)
  have hbR : Blk W0 w.heap.size 22 #[.slice A n c] := by rw [← hW0]; exact (((Blk.new _ _ _).alloc _).alloc _).alloc _
  have hbM : Blk W0 (w.heap.size + 1) 36 #[.int .i64 what, .int .i64 N] := by
    rw [← hW0]
    have := Blk.new (w.alloc (.cells #[.slice A n c] 22)) 36 #[.int .i64 what, .int .i64 N]
    simp at this
    exact (this.alloc _).alloc _
  have hbO : Blk W0 (w.heap.size + 1 + 1) 22 #[.slice none 0 0] := by
    rw [← hW0]
    have := Blk.new ((w.alloc (.cells #[.slice A n c] 22)).alloc (.cells #[.int .i64 what, .int .i64 N] 36)) 22 #[.slice none 0 0]
    simp at this
    exact this.alloc _
  have hbB : Blk W0 (w.heap.size + 1 + 1 + 1) 4 #[.bool false] := by
    rw [← hW0]
    have := Blk.new (((w.alloc (.cells #[.slice A n c] 22)).alloc (.cells #[.int .i64 what, .int .i64 N] 36)).alloc (.cells #[.slice none 0 0] 22)) 4 #[.bool false]
    simpa using this
  have Hz0 := Lib.hid (show W0.heap.size = w.heap.size + 1 + 1 + 1 + 1 by rw [← hW0]; simp)
  try rw [hW0]
  clear hW0
  have hzB := hbB.lt
  have H0 := Lib.hid (H.out.grow hG0)
  have HK := Lib.hid (show (0 : Int) = (kk : Int) by have := Hkk.out; omega)
  have HT := Lib.hid (show L.take N.toNat = L.take kk by
    have h1 := Hkk.out
    have h2 := Hlen.out
    rcases Nat.le_total N.toNat n with h | h
    · rw [h1, Nat.min_eq_left h]
    · rw [List.take_of_length_le (by omega), List.take_of_length_le (by omega)])
  have HD := Lib.hid (show L.drop N.toNat = L.drop kk by
    have h1 := Hkk.out
    have h2 := Hlen.out
    rcases Nat.le_total N.toNat n with h | h
    · rw [h1, Nat.min_eq_left h]
    · rw [List.drop_eq_nil_of_le (by omega), List.drop_eq_nil_of_le (by omega)])
  have HcR := Lib.hid (show ∀ w3, Keep (fun j => F j ∨ j = w.heap.size + 1 + 1 ∨ j = w.heap.size + 1 + 1 + 1 ∨ W0.heap.size ≤ j) W0 w3 → w3.cell? ⟨w.heap.size, 0, none⟩ = some (.slice A n c) from fun w3 hk => (hk.blk hbR (fun hF => by rcases hF with h9 | h9; have := hlt0 _ h9; omega; omega)).cell 0)
  have HcN := Lib.hid (show ∀ w3, Keep (fun j => F j ∨ j = w.heap.size + 1 + 1 ∨ j = w.heap.size + 1 + 1 + 1 ∨ W0.heap.size ≤ j) W0 w3 → w3.cell? ⟨w.heap.size + 1, 1, none⟩ = some (.int .i64 N) from fun w3 hk => (hk.blk hbM (fun hF => by rcases hF with h9 | h9; have := hlt0 _ h9; omega; omega)).cell 1)
  refine wpIn_wide.2 (wp_region_stages (by kernel_rfl) ?_)
  refine anyOrder_start [6, 10, 11, 12] (Keep (fun j => F j ∨ j = w.heap.size + 1 + 1 ∨ j = w.heap.size + 1 + 1 + 1 ∨ W0.heap.size ≤ j)) (mvW d W0 (.pointer p) (L.drop N.toNat) (L.take N.toNat) F (w.heap.size + 1 + 1) (w.heap.size + 1 + 1 + 1) (.slice (cutA A c kk 1) (n - kk) (c - kk))) (FactsOn [.is (.slice A n c), .is (.int .i64 0), .is (.slice (cutA A c kk 1) (n - kk) (c - kk)), .is (.pointer p), .is (.pointer (some ⟨w.heap.size + 1, 1, none⟩)), .is (.int .i64 N), .any, .is (.slice A n c), .is (.int .i64 0), .is (.slice A kk c), .any, .any, .any]) (fun i => 99) keep_trans keep_grow (mvW.grow) (factsOn_mono _) (by kernel_rfl) (by kernel_rfl) (Grow.refl _) ?_ ?_
  · refine ⟨?_, ?_, ?_, ?_, ?_, ?_, ?_, ?_, ?_, ?_, ?_, ?_, ?_, trivial⟩
    · refine stageOf_free rfl (fun _ _ _ _ _ _ => wanted_none rfl) ?_
      intro us vals w3 a' ha hle hW hd hv K hK
      have q4 : a'.tmps[4]? = some (.pointer (some ⟨w.heap.size, 0, none⟩)) := slot_old ha (by kernel_rfl) (by kernel_rfl)
      have hc := HcR.out w3 hle
      refine step_value (v := .slice A n c) (w2 := w3) ?_ (hK _ _ (Grow.refl _) rfl)
      go_simp
    · refine stageOf_free rfl (fun _ _ _ _ _ _ => wanted_none rfl) ?_
      intro us vals w3 a' ha hle hW hd hv K hK
      have q8 : a'.tmps[8]? = some (.int .i64 0) := slot_old ha (by kernel_rfl) (by kernel_rfl)
      exact step_value (w2 := w3) (by go_simp) (hK _ _ (Grow.refl _) rfl)
    · refine stageOf_free rfl (fun _ _ _ _ _ _ => wanted_none rfl) ?_
      intro us vals w3 a' ha hle hW hd hv K hK
      obtain ⟨d0, d1, _⟩ := hd
      have q41 : a'.tmps[41]? = some (us 0) := slot_get ha 0 (by kernel_rfl) (by kernel_rfl)
      rw [show us 0 = .slice A n c from d0] at q41
      have q42 : a'.tmps[42]? = some (us 1) := slot_get ha 1 (by kernel_rfl) (by kernel_rfl)
      rw [show us 1 = .int .i64 0 from d1] at q42
      exact step_cut_tail intsTy (s := 41) (h := 42) rfl q41 q42 kk HK.out hkn (hK _ _ (Grow.refl _) rfl)
    · refine stageOf_free rfl (fun _ _ _ _ _ _ => wanted_none rfl) ?_
      intro us vals w3 a' ha hle hW hd hv K hK
      have q0 : a'.tmps[0]? = some (.pointer p) := slot_old ha (by kernel_rfl) (by kernel_rfl)
      exact step_value (w2 := w3) (by go_simp) (hK _ _ (Grow.refl _) rfl)
    · refine stageOf_free rfl (fun _ _ _ _ _ _ => wanted_none rfl) ?_
      intro us vals w3 a' ha hle hW hd hv K hK
      have q5 : a'.tmps[5]? = some (.pointer (some ⟨w.heap.size + 1, 0, none⟩)) := slot_old ha (by kernel_rfl) (by kernel_rfl)
      refine step_value (v := .pointer (some ⟨w.heap.size + 1, 1, none⟩)) (w2 := w3) ?_ (hK _ _ (Grow.refl _) rfl)
      go_simp
    · refine stageOf_free rfl (fun _ _ _ _ _ _ => wanted_none rfl) ?_
      intro us vals w3 a' ha hle hW hd hv K hK
      obtain ⟨d4, _⟩ := hd
      have q45 : a'.tmps[45]? = some (us 4) := slot_get ha 4 (by kernel_rfl) (by kernel_rfl)
      rw [show us 4 = .pointer (some ⟨w.heap.size + 1, 1, none⟩) from d4] at q45
      have hc := HcN.out w3 hle
      refine step_value (v := .int .i64 N) (w2 := w3) ?_ (hK _ _ (Grow.refl _) rfl)
      go_simp
    · refine stageOf_mem (t := 0) rfl ?_
      intro us vals w3 a' ha hle hW hd hv
      obtain ⟨d3, d5, _⟩ := hd
      obtain rfl := List.eq_nil_of_length_eq_zero (Nat.le_zero.1 (show vals.length ≤ 0 from Nat.le_of_eq hv))
      refine ⟨wanted_none rfl, fun K hK => ?_⟩
      have q44 : a'.tmps[44]? = some (us 3) := slot_get ha 3 (by kernel_rfl) (by kernel_rfl)
      rw [show us 3 = .pointer p from d3] at q44
      have q46 : a'.tmps[46]? = some (us 5) := slot_get ha 5 (by kernel_rfl) (by kernel_rfl)
      rw [show us 5 = .int .i64 N from d5] at q46
      refine step_call (f := 11) (args := #[.pointer p, .int .i64 N]) (by go_simp) ?_
      refine (cTake_any d w3 p L F N (H0.out.grow hW) (by have := Hlen.out; omega)).mono ?_
      rintro e w4 ⟨x, rfl, ho, F5, hc5, hk5, hf5⟩
      obtain ⟨A5, c5, rfl, h51, h52, h53⟩ := own_reads ho
      exact ⟨_, rfl, hK _ _ (hk5.mono fun j hj => Or.inl (Or.inl hj)) ⟨CurTo.grow hW ⟨F5, hc5, hk5, hf5⟩, A5, c5, rfl, h51, h52, h53⟩⟩
    · refine stageOf_free rfl (fun _ _ _ _ _ _ => wanted_none rfl) ?_
      intro us vals w3 a' ha hle hW hd hv K hK
      have q4 : a'.tmps[4]? = some (.pointer (some ⟨w.heap.size, 0, none⟩)) := slot_old ha (by kernel_rfl) (by kernel_rfl)
      have hc := HcR.out w3 hle
      refine step_value (v := .slice A n c) (w2 := w3) ?_ (hK _ _ (Grow.refl _) rfl)
      go_simp
    · refine stageOf_free rfl (fun _ _ _ _ _ _ => wanted_none rfl) ?_
      intro us vals w3 a' ha hle hW hd hv K hK
      have q8 : a'.tmps[8]? = some (.int .i64 0) := slot_old ha (by kernel_rfl) (by kernel_rfl)
      exact step_value (w2 := w3) (by go_simp) (hK _ _ (Grow.refl _) rfl)
    · refine stageOf_free rfl (fun _ _ _ _ _ _ => wanted_none rfl) ?_
      intro us vals w3 a' ha hle hW hd hv K hK
      obtain ⟨d7, d8, _⟩ := hd
      have q48 : a'.tmps[48]? = some (us 7) := slot_get ha 7 (by kernel_rfl) (by kernel_rfl)
      rw [show us 7 = .slice A n c from d7] at q48
      have q49 : a'.tmps[49]? = some (us 8) := slot_get ha 8 (by kernel_rfl) (by kernel_rfl)
      rw [show us 8 = .int .i64 0 from d8] at q49
      exact step_cut_head intsTy (s := 48) (h := 49) rfl q48 q49 kk HK.out (by omega) (hK _ _ (Grow.refl _) rfl)
    · refine stageOf_mem (t := 1) rfl ?_
      intro us vals w3 a' ha hle hW hd hv
      obtain ⟨d6, d9, _, _⟩ := hd
      obtain ⟨x0, rfl⟩ := List.length_eq_one_iff.1 hv
      obtain rfl : us 6 = x0 := by have h0 : some x0 = some (us 6) := d6; injection h0 with h0; exact h0.symm
      refine ⟨wanted_none rfl, fun K hK => ?_⟩
      have q47 : a'.tmps[47]? = some (us 6) := slot_get ha 6 (by kernel_rfl) (by kernel_rfl)
      have q50 : a'.tmps[50]? = some (us 9) := slot_get ha 9 (by kernel_rfl) (by kernel_rfl)
      rw [show us 9 = .slice A kk c from d9] at q50
      obtain ⟨hct, A5, c5, e5, h51, h52, h53⟩ := hW
      rw [e5] at q47
      obtain ⟨F5, hc5, hk5, hf5⟩ := id hct
      have hr3 : RestAt w3 F5 A n c L := Hr.out.moved ((Keep.grow (S := F) hG0).trans' hk5) (fun j hj => (hf5 j hj).imp id fun h => Nat.le_trans hG0.size h)
      refine step_call (f := 10) (args := #[.slice A5 (L.take N.toNat).length c5, .slice A kk c]) (by go_simp) ?_
      refine (SameInts_any w3 w3.heap.size w3.heap.size A5 A (L.take N.toNat).length c5 kk c (L.take N.toNat) (L.take kk) h53 (hr3.ints.head hkn) (by unfold maxLen at h52 ⊢; omega) (by unfold maxLen; omega)).mono ?_
      rintro e w4 ⟨rfl, q, rfl⟩
      exact ⟨_, rfl, hK _ _ (Keep.grow (Grow.drewN _ _)) ⟨hct.more (Grow.drewN _ _), by rw [sameL_eq HT.out]⟩⟩
    · refine stageOf_mem (t := 2) rfl ?_
      intro us vals w3 a' ha hle hW hd hv
      obtain ⟨d2, _, _, _, _, _⟩ := hd
      refine ⟨wanted_none rfl, fun K hK => ?_⟩
      have q6 : a'.tmps[6]? = some (.pointer (some ⟨w.heap.size + 1 + 1, 0, none⟩)) := slot_old ha (by kernel_rfl) (by kernel_rfl)
      have q43 : a'.tmps[43]? = some (us 2) := slot_get ha 2 (by kernel_rfl) (by kernel_rfl)
      rw [show us 2 = .slice (cutA A c kk 1) (n - kk) (c - kk) from d2] at q43
      obtain ⟨x0, x1, rfl⟩ := len2 hv
      obtain ⟨⟨F5, hc5, hk5, hf5⟩, hy⟩ := hW
      have hO3 := hk5.blk hbO (fun hF => by have := hlt0 _ hF; omega)
      have hf := hO3.frozen 0
      have hc := hO3.cell 0
      have hk9 := Keep.setCell w3 ⟨w.heap.size + 1 + 1, 0, none⟩ (.slice (cutA A c kk 1) (n - kk) (c - kk))
      refine step_skip (w2 := w3.setCell ⟨w.heap.size + 1 + 1, 0, none⟩ (.slice (cutA A c kk 1) (n - kk) (c - kk))) ?_ (hK _ _ (hk9.mono fun j hj => Or.inl (Or.inr (Or.inl hj))) ⟨hy, hO3.set 0 (.slice (cutA A c kk 1) (n - kk) (c - kk)), F5, hc5.kept hk9 (fun j hj e => ?_), (hk5.mono fun j hj => Or.inl (Or.inl hj)).trans' (hk9.mono fun j hj => Or.inl (Or.inr hj)), hf5⟩)
      · go_simp
      · have e2 : j = w.heap.size + 1 + 1 := e
        rcases hf5 j hj with h9 | h9
        · have := hlt0 j h9
          omega
        · omega
    · refine stageOf_mem (t := 3) rfl ?_
      intro us vals w3 a' ha hle hW hd hv
      obtain ⟨d10, _, _, _, _, _, _, _, _, _, _, _, _, _, _⟩ := hd
      refine ⟨wanted_none rfl, fun K hK => ?_⟩
      have q7 : a'.tmps[7]? = some (.pointer (some ⟨w.heap.size + 1 + 1 + 1, 0, none⟩)) := slot_old ha (by kernel_rfl) (by kernel_rfl)
      have q51 : a'.tmps[51]? = some (us 10) := slot_get ha 10 (by kernel_rfl) (by kernel_rfl)
      obtain ⟨x0, x1, x2, rfl⟩ := len3 hv
      obtain ⟨hy, hS3, F5, hc5, hk5, hf5⟩ := hW
      have e9 : us 10 = .bool true := by have h0 : some x1 = some (us 10) := d10; injection h0 with h0; rw [← h0]; exact hy
      rw [e9] at q51
      have hB3 := hk5.blk hbB (fun hF => by rcases hF with h9 | h9; have := hlt0 _ h9; omega; omega)
      have hf := hB3.frozen 0
      have hc := hB3.cell 0
      have hk9 := Keep.setCell w3 ⟨w.heap.size + 1 + 1 + 1, 0, none⟩ (.bool true)
      refine step_skip (w2 := w3.setCell ⟨w.heap.size + 1 + 1 + 1, 0, none⟩ (.bool true)) ?_ (hK _ _ (hk9.mono fun j hj => Or.inl (Or.inr (Or.inr (Or.inl hj)))) ⟨hS3.far (by simp) _, hB3.set 0 (.bool true), F5, hc5.kept hk9 (fun j hj e => ?_), (hk5.mono fun j hj => Or.inl (by rcases hj with h9 | h9; exact Or.inl h9; exact Or.inr (Or.inl h9))).trans' (hk9.mono fun j hj => Or.inl (Or.inr (Or.inr hj))), hf5⟩)
      · go_simp
      · have e2 : j = w.heap.size + 1 + 1 + 1 := e
        rcases hf5 j hj with h9 | h9
        · have := hlt0 j h9
          omega
        · omega
  · intro us vals w3 hle hvl hV _ hf
    obtain ⟨x0, x1, x2, x3, rfl⟩ := len4 hvl
    obtain ⟨hO3, hB3, F5, hc5, hk5, hf5⟩ := hV
    rw [HD.out] at hc5
    have hcO := hO3.cell 0
    have hcB := hB3.cell 0
    have Hfin := Lib.hid (show MovedTo d w (.pointer p) n F (.returned (.tuple #[.slice (cutA A c kk 1) (n - kk) (c - kk), .bool true])) w3 from
      moved_fin (S := fun _ => False) (Hr.out.drop hkn) (Nat.sub_le _ _) hc5 ((Keep.grow (S := F) hG0).trans hk5 fun j hj => by
        rcases hj with h9 | h9
        · exact Or.inl h9
        · exact Or.inr (by omega)) (fun j hj => (hf5 j hj).imp id fun h => Nat.le_trans hG0.size h) (Keep.refl _ _) fun j hj => hj.elim)
    clear hle hf hO3 hB3 hc5 hk5 hf5 hbR hbM hbO hbB
    simp only [fills, Act.put, List.setIfInBounds_toArray, List.set_cons_succ, List.set_cons_zero]
    gi_wp2
    exact ⟨_, results_cells2 rfl _ _ (w.heap.size + 1 + 1) (w.heap.size + 1 + 1 + 1) (.slice (cutA A c kk 1) (n - kk) (c - kk)) (.bool true) rfl rfl (by go_simp) (by go_simp), Hfin.out⟩
set_option maxRecDepth 100000 in
set_option maxHeartbeats 4000000 in
theorem moved_2p (d : Nat) (w : World) (v : Value) (L : List Int) (F : Nat → Prop) (A : Option Addr) (n c : Nat) (what N : Int) (h : Cur d w v L F) (hr : RestAt w F A n c L) (hn : n ≤ 17592186044415) (hw : W64 what) (hN : W64 N) (hmm : pickI what 4 = 2) (hs : 0 ≤ N) :
    Calls Try.prog 9 #[v, .slice A n c, .agg #[.int .i64 what, .int .i64 N]] w (MovedTo d w v n F) := by
  have intsTy : AppTy Try.prog 22 3 (.int .i64 0) 1 8 := AppTy.mk' Try.underlying22 (by kernel_rfl) rfl (by decide)
  obtain ⟨p, rfl⟩ := h.isPtr
  have hlt0 := h.lt
  have hlen := hr.len
  have hnc : n ≤ c := VecAt.cap hr
  obtain ⟨kk, hkk⟩ : ∃ kk : Nat, kk = min N.toNat n := ⟨_, rfl⟩
  have hkn : kk ≤ n := by omega
  have hm : (if (n : Int) < N then (n : Int) else N) = (kk : Int) := by split <;> omega
  have Hm := Lib.hid hm
  clear hm
  unfold W64 at hw hN
  have Hpick := Lib.hid (fun W => Pick_nat what 4 2 W hmm hw.1 hw.2 (by omega))
  have H := Lib.hid h
  have Hr := Lib.hid hr
  have Hkk := Lib.hid hkk
  have Hlen := Lib.hid hlen
  clear h hr hkk hlen hmm hw
  refine (callsIn_wide (n := 4)).1 ?_
  refine callsIn_of_wp_marks Try.func9 rfl trivial ?_ rfl
  simp only [Try.ntmps9, List.size_toArray, List.length_cons, List.length_nil, Nat.reduceSub, Nat.reduceAdd, Array.replicate_succ, Array.replicate_zero, List.push_toArray, List.append_toArray, List.nil_append, List.cons_append]
  gi_wp2_with (refine ⟨trivial, ?_⟩; rw [Hm.out]; gi_at_call 17; refine (callsIn_wide.2 (Hpick.out _)).mono ?_; rintro e w' ⟨rfl, rfl⟩)
  obtain ⟨W0, hW0⟩ : ∃ W0, (((w.alloc (.cells #[.slice A n c] 22)).alloc (.cells #[.int .i64 what, .int .i64 N] 36)).alloc (.cells #[.slice none 0 0] 22)).alloc (.cells #[.bool false] 4) = W0 := ⟨_, rfl⟩
  have hG0 : Grow w W0 := by rw [← hW0]; exact (((Grow.alloc _ _).trans (Grow.alloc _ _)).trans (Grow.alloc _ _)).trans (Grow.alloc _ _)
  have hbR : Blk W0 w.heap.size 22 #[.slice A n c] := by rw [← hW0]; exact (((Blk.new _ _ _).alloc _).alloc _).alloc _
  have hbM : Blk W0 (w.heap.size + 1) 36 #[.int .i64 what, .int .i64 N] := by
    rw [← hW0]
    have := Blk.new (w.alloc (.cells #[.slice A n c] 22)) 36 #[.int .i64 what, .int .i64 N]
    simp at this
    exact (this.alloc _).alloc _
  have hbO : Blk W0 (w.heap.size + 1 + 1) 22 #[.slice none 0 0] := by
    rw [← hW0]
    have := Blk.new ((w.alloc (.cells #[.slice A n c] 22)).alloc (.cells #[.int .i64 what, .int .i64 N] 36)) 22 #[.slice none 0 0]
    simp at this
    exact this.alloc _
  have hbB : Blk W0 (w.heap.size + 1 + 1 + 1) 4 #[.bool false] := by
    rw [← hW0]
    have := Blk.new (((w.alloc (.cells #[.slice A n c] 22)).alloc (.cells #[.int .i64 what, .int .i64 N] 36)).alloc (.cells #[.slice none 0 0] 22)) 4 #[.bool false]
    simpa using this
  have Hz0 := Lib.hid (show W0.heap.size = w.heap.size + 1 + 1 + 1 + 1 by rw [← hW0]; simp)
  try rw [hW0]
  clear hW0
  have hzB := hbB.lt
  have H0 := Lib.hid (H.out.grow hG0)
  have HK := Lib.hid (show ((kk : Int) : Int) = (kk : Int) by have := Hkk.out; omega)
  have HT := Lib.hid (show L.take N.toNat = L.take kk by
    have h1 := Hkk.out
    have h2 := Hlen.out
    rcases Nat.le_total N.toNat n with h | h
    · rw [h1, Nat.min_eq_left h]
    · rw [List.take_of_length_le (by omega), List.take_of_length_le (by omega)])
  have HD := Lib.hid (show L.drop N.toNat = L.drop kk by
    have h1 := Hkk.out
    have h2 := Hlen.out
    rcases Nat.le_total N.toNat n with h | h
    · rw [h1, Nat.min_eq_left h]
    · rw [List.drop_eq_nil_of_le (by omega), List.drop_eq_nil_of_le (by omega)])
  have HcR := Lib.hid (show ∀ w3, Keep (fun j => F j ∨ j = w.heap.size + 1 + 1 ∨ j = w.heap.size + 1 + 1 + 1 ∨ W0.heap.size ≤ j) W0 w3 → w3.cell? ⟨w.heap.size, 0, none⟩ = some (.slice A n c) from fun w3 hk => (hk.blk hbR (fun hF => by rcases hF with h9 | h9; have := hlt0 _ h9; omega; omega)).cell 0)
  have HcN := Lib.hid (show ∀ w3, Keep (fun j => F j ∨ j = w.heap.size + 1 + 1 ∨ j = w.heap.size + 1 + 1 + 1 ∨ W0.heap.size ≤ j) W0 w3 → w3.cell? ⟨w.heap.size + 1, 1, none⟩ = some (.int .i64 N) from fun w3 hk => (hk.blk hbM (fun hF => by rcases hF with h9 | h9; have := hlt0 _ h9; omega; omega)).cell 1)
  refine wpIn_wide.2 (wp_region_stages (by kernel_rfl) ?_)
  refine anyOrder_start [6, 10, 11, 12] (Keep (fun j => F j ∨ j = w.heap.size + 1 + 1 ∨ j = w.heap.size + 1 + 1 + 1 ∨ W0.heap.size ≤ j)) (mvW d W0 (.pointer p) (L.drop N.toNat) (L.take N.toNat) F (w.heap.size + 1 + 1) (w.heap.size + 1 + 1 + 1) (.slice (cutA A c kk 1) (n - kk) (c - kk))) (FactsOn [.is (.slice A n c), .is (.int .i64 (kk : Int)), .is (.slice (cutA A c kk 1) (n - kk) (c - kk)), .is (.pointer p), .is (.pointer (some ⟨w.heap.size + 1, 1, none⟩)), .is (.int .i64 N), .any, .is (.slice A n c), .is (.int .i64 (kk : Int)), .is (.slice A kk c), .any, .any, .any]) (fun i => 99) keep_trans keep_grow (mvW.grow) (factsOn_mono _) (by kernel_rfl) (by kernel_rfl) (Grow.refl _) ?_ ?_
  · refine ⟨?_, ?_, ?_, ?_, ?_, ?_, ?_, ?_, ?_, ?_, ?_, ?_, ?_, trivial⟩
    · refine stageOf_free rfl (fun _ _ _ _ _ _ => wanted_none rfl) ?_
      intro us vals w3 a' ha hle hW hd hv K hK
      have q4 : a'.tmps[4]? = some (.pointer (some ⟨w.heap.size, 0, none⟩)) := slot_old ha (by kernel_rfl) (by kernel_rfl)
      have hc := HcR.out w3 hle
      refine step_value (v := .slice A n c) (w2 := w3) ?_ (hK _ _ (Grow.refl _) rfl)
      go_simp
    · refine stageOf_free rfl (fun _ _ _ _ _ _ => wanted_none rfl) ?_
      intro us vals w3 a' ha hle hW hd hv K hK
      have q8 : a'.tmps[8]? = some (.int .i64 (kk : Int)) := slot_old ha (by kernel_rfl) (by kernel_rfl)
      exact step_value (w2 := w3) (by go_simp) (hK _ _ (Grow.refl _) rfl)
    · refine stageOf_free rfl (fun _ _ _ _ _ _ => wanted_none rfl) ?_
      intro us vals w3 a' ha hle hW hd hv K hK
      obtain ⟨d0, d1, _⟩ := hd
      have q41 : a'.tmps[41]? = some (us 0) := slot_get ha 0 (by kernel_rfl) (by kernel_rfl)
      rw [show us 0 = .slice A n c from d0] at q41
      have q42 : a'.tmps[42]? = some (us 1) := slot_get ha 1 (by kernel_rfl) (by kernel_rfl)
      rw [show us 1 = .int .i64 (kk : Int) from d1] at q42
      exact step_cut_tail intsTy (s := 41) (h := 42) rfl q41 q42 kk HK.out hkn (hK _ _ (Grow.refl _) rfl)
    · refine stageOf_free rfl (fun _ _ _ _ _ _ => wanted_none rfl) ?_
      intro us vals w3 a' ha hle hW hd hv K hK
      have q0 : a'.tmps[0]? = some (.pointer p) := slot_old ha (by kernel_rfl) (by kernel_rfl)
      exact step_value (w2 := w3) (by go_simp) (hK _ _ (Grow.refl _) rfl)
    · refine stageOf_free rfl (fun _ _ _ _ _ _ => wanted_none rfl) ?_
      intro us vals w3 a' ha hle hW hd hv K hK
      have q5 : a'.tmps[5]? = some (.pointer (some ⟨w.heap.size + 1, 0, none⟩)) := slot_old ha (by kernel_rfl) (by kernel_rfl)
      refine step_value (v := .pointer (some ⟨w.heap.size + 1, 1, none⟩)) (w2 := w3) ?_ (hK _ _ (Grow.refl _) rfl)
      go_simp
    · refine stageOf_free rfl (fun _ _ _ _ _ _ => wanted_none rfl) ?_
      intro us vals w3 a' ha hle hW hd hv K hK
      obtain ⟨d4, _⟩ := hd
      have q45 : a'.tmps[45]? = some (us 4) := slot_get ha 4 (by kernel_rfl) (by kernel_rfl)
      rw [show us 4 = .pointer (some ⟨w.heap.size + 1, 1, none⟩) from d4] at q45
      have hc := HcN.out w3 hle
      refine step_value (v := .int .i64 N) (w2 := w3) ?_ (hK _ _ (Grow.refl _) rfl)
      go_simp
    · refine stageOf_mem (t := 0) rfl ?_
      intro us vals w3 a' ha hle hW hd hv
      obtain ⟨d3, d5, _⟩ := hd
      obtain rfl := List.eq_nil_of_length_eq_zero (Nat.le_zero.1 (show vals.length ≤ 0 from Nat.le_of_eq hv))
      refine ⟨wanted_none rfl, fun K hK => ?_⟩
      have q44 : a'.tmps[44]? = some (us 3) := slot_get ha 3 (by kernel_rfl) (by kernel_rfl)
      rw [show us 3 = .pointer p from d3] at q44
      have q46 : a'.tmps[46]? = some (us 5) := slot_get ha 5 (by kernel_rfl) (by kernel_rfl)
      rw [show us 5 = .int .i64 N from d5] at q46
      refine step_call (f := 11) (args := #[.pointer p, .int .i64 N]) (by go_simp) ?_
      refine (cTake_any d w3 p L F N (H0.out.grow hW) (by have := Hlen.out; omega)).mono ?_
      rintro e w4 ⟨x, rfl, ho, F5, hc5, hk5, hf5⟩
      obtain ⟨A5, c5, rfl, h51, h52, h53⟩ := own_reads ho
      exact ⟨_, rfl, hK _ _ (hk5.mono fun j hj => Or.inl (Or.inl hj)) ⟨CurTo.grow hW ⟨F5, hc5, hk5, hf5⟩, A5, c5, rfl, h51, h52, h53⟩⟩
    · refine stageOf_free rfl (fun _ _ _ _ _ _ => wanted_none rfl) ?_
      intro us vals w3 a' ha hle hW hd hv K hK
      have q4 : a'.tmps[4]? = some (.pointer (some ⟨w.heap.size, 0, none⟩)) := slot_old ha (by kernel_rfl) (by kernel_rfl)
      have hc := HcR.out w3 hle
      refine step_value (v := .slice A n c) (w2 := w3) ?_ (hK _ _ (Grow.refl _) rfl)
      go_simp
    · refine stageOf_free rfl (fun _ _ _ _ _ _ => wanted_none rfl) ?_
      intro us vals w3 a' ha hle hW hd hv K hK
      have q8 : a'.tmps[8]? = some (.int .i64 (kk : Int)) := slot_old ha (by kernel_rfl) (by kernel_rfl)
      exact step_value (w2 := w3) (by go_simp) (hK _ _ (Grow.refl _) rfl)
    · refine stageOf_free rfl (fun _ _ _ _ _ _ => wanted_none rfl) ?_
      intro us vals w3 a' ha hle hW hd hv K hK
      obtain ⟨d7, d8, _⟩ := hd
      have q48 : a'.tmps[48]? = some (us 7) := slot_get ha 7 (by kernel_rfl) (by kernel_rfl)
      rw [show us 7 = .slice A n c from d7] at q48
      have q49 : a'.tmps[49]? = some (us 8) := slot_get ha 8 (by kernel_rfl) (by kernel_rfl)
      rw [show us 8 = .int .i64 (kk : Int) from d8] at q49
      exact step_cut_head intsTy (s := 48) (h := 49) rfl q48 q49 kk HK.out (by omega) (hK _ _ (Grow.refl _) rfl)
    · refine stageOf_mem (t := 1) rfl ?_
      intro us vals w3 a' ha hle hW hd hv
      obtain ⟨d6, d9, _, _⟩ := hd
      obtain ⟨x0, rfl⟩ := List.length_eq_one_iff.1 hv
      obtain rfl : us 6 = x0 := by have h0 : some x0 = some (us 6) := d6; injection h0 with h0; exact h0.symm
      refine ⟨wanted_none rfl, fun K hK => ?_⟩
      have q47 : a'.tmps[47]? = some (us 6) := slot_get ha 6 (by kernel_rfl) (by kernel_rfl)
      have q50 : a'.tmps[50]? = some (us 9) := slot_get ha 9 (by kernel_rfl) (by kernel_rfl)
      rw [show us 9 = .slice A kk c from d9] at q50
      obtain ⟨hct, A5, c5, e5, h51, h52, h53⟩ := hW
      rw [e5] at q47
      obtain ⟨F5, hc5, hk5, hf5⟩ := id hct
      have hr3 : RestAt w3 F5 A n c L := Hr.out.moved ((Keep.grow (S := F) hG0).trans' hk5) (fun j hj => (hf5 j hj).imp id fun h => Nat.le_trans hG0.size h)
      refine step_call (f := 10) (args := #[.slice A5 (L.take N.toNat).length c5, .slice A kk c]) (by go_simp) ?_
      refine (SameInts_any w3 w3.heap.size w3.heap.size A5 A (L.take N.toNat).length c5 kk c (L.take N.toNat) (L.take kk) h53 (hr3.ints.head hkn) (by unfold maxLen at h52 ⊢; omega) (by unfold maxLen; omega)).mono ?_
      rintro e w4 ⟨rfl, q, rfl⟩
      exact ⟨_, rfl, hK _ _ (Keep.grow (Grow.drewN _ _)) ⟨hct.more (Grow.drewN _ _), by rw [sameL_eq HT.out]⟩⟩
    · refine stageOf_mem (t := 2) rfl ?_
      intro us vals w3 a' ha hle hW hd hv
      obtain ⟨d2, _, _, _, _, _⟩ := hd
      refine ⟨wanted_none rfl, fun K hK => ?_⟩
      have q6 : a'.tmps[6]? = some (.pointer (some ⟨w.heap.size + 1 + 1, 0, none⟩)) := slot_old ha (by kernel_rfl) (by kernel_rfl)
      have q43 : a'.tmps[43]? = some (us 2) := slot_get ha 2 (by kernel_rfl) (by kernel_rfl)
      rw [show us 2 = .slice (cutA A c kk 1) (n - kk) (c - kk) from d2] at q43
      obtain ⟨x0, x1, rfl⟩ := len2 hv
      obtain ⟨⟨F5, hc5, hk5, hf5⟩, hy⟩ := hW
      have hO3 := hk5.blk hbO (fun hF => by have := hlt0 _ hF; omega)
      have hf := hO3.frozen 0
      have hc := hO3.cell 0
      have hk9 := Keep.setCell w3 ⟨w.heap.size + 1 + 1, 0, none⟩ (.slice (cutA A c kk 1) (n - kk) (c - kk))
      refine step_skip (w2 := w3.setCell ⟨w.heap.size + 1 + 1, 0, none⟩ (.slice (cutA A c kk 1) (n - kk) (c - kk))) ?_ (hK _ _ (hk9.mono fun j hj => Or.inl (Or.inr (Or.inl hj))) ⟨hy, hO3.set 0 (.slice (cutA A c kk 1) (n - kk) (c - kk)), F5, hc5.kept hk9 (fun j hj e => ?_), (hk5.mono fun j hj => Or.inl (Or.inl hj)).trans' (hk9.mono fun j hj => Or.inl (Or.inr hj)), hf5⟩)
      · go_simp
      · have e2 : j = w.heap.size + 1 + 1 := e
        rcases hf5 j hj with h9 | h9
        · have := hlt0 j h9
          omega
        · omega
    · refine stageOf_mem (t := 3) rfl ?_
      intro us vals w3 a' ha hle hW hd hv
      obtain ⟨d10, _, _, _, _, _, _, _, _, _, _, _, _, _, _⟩ := hd
      refine ⟨wanted_none rfl, fun K hK => ?_⟩
      have q7 : a'.tmps[7]? = some (.pointer (some ⟨w.heap.size + 1 + 1 + 1, 0, none⟩)) := slot_old ha (by kernel_rfl) (by kernel_rfl)
      have q51 : a'.tmps[51]? = some (us 10) := slot_get ha 10 (by kernel_rfl) (by kernel_rfl)
      obtain ⟨x0, x1, x2, rfl⟩ := len3 hv
      obtain ⟨hy, hS3, F5, hc5, hk5, hf5⟩ := hW
      have e9 : us 10 = .bool true := by have h0 : some x1 = some (us 10) := d10; injection h0 with h0; rw [← h0]; exact hy
      rw [e9] at q51
      have hB3 := hk5.blk hbB (fun hF => by rcases hF with h9 | h9; have := hlt0 _ h9; omega; omega)
      have hf := hB3.frozen 0
      have hc := hB3.cell 0
      have hk9 := Keep.setCell w3 ⟨w.heap.size + 1 + 1 + 1, 0, none⟩ (.bool true)
      refine step_skip (w2 := w3.setCell ⟨w.heap.size + 1 + 1 + 1, 0, none⟩ (.bool true)) ?_ (hK _ _ (hk9.mono fun j hj => Or.inl (Or.inr (Or.inr (Or.inl hj)))) ⟨hS3.far (by simp) _, hB3.set 0 (.bool true), F5, hc5.kept hk9 (fun j hj e => ?_), (hk5.mono fun j hj => Or.inl (by rcases hj with h9 | h9; exact Or.inl h9; exact Or.inr (Or.inl h9))).trans' (hk9.mono fun j hj => Or.inl (Or.inr (Or.inr hj))), hf5⟩)
      · go_simp
      · have e2 : j = w.heap.size + 1 + 1 + 1 := e
        rcases hf5 j hj with h9 | h9
        · have := hlt0 j h9
          omega
        · omega
  · intro us vals w3 hle hvl hV _ hf
    obtain ⟨x0, x1, x2, x3, rfl⟩ := len4 hvl
    obtain ⟨hO3, hB3, F5, hc5, hk5, hf5⟩ := hV
    rw [HD.out] at hc5
    have hcO := hO3.cell 0
    have hcB := hB3.cell 0
    have Hfin := Lib.hid (show MovedTo d w (.pointer p) n F (.returned (.tuple #[.slice (cutA A c kk 1) (n - kk) (c - kk), .bool true])) w3 from
      moved_fin (S := fun _ => False) (Hr.out.drop hkn) (Nat.sub_le _ _) hc5 ((Keep.grow (S := F) hG0).trans hk5 fun j hj => by
        rcases hj with h9 | h9
        · exact Or.inl h9
        · exact Or.inr (by omega)) (fun j hj => (hf5 j hj).imp id fun h => Nat.le_trans hG0.size h) (Keep.refl _ _) fun j hj => hj.elim)
    clear hle hf hO3 hB3 hc5 hk5 hf5 hbR hbM hbO hbB
    simp only [fills, Act.put, List.setIfInBounds_toArray, List.set_cons_succ, List.set_cons_zero]
    gi_wp2
    exact ⟨_, results_cells2 rfl _ _ (w.heap.size + 1 + 1) (w.heap.size + 1 + 1 + 1) (.slice (cutA A c kk 1) (n - kk) (c - kk)) (.bool true) rfl rfl (by go_simp) (by go_simp), Hfin.out⟩
set_option maxRecDepth 100000 in
set_option maxHeartbeats 4000000 in
theorem moved_3n (d : Nat) (w : World) (v : Value) (L : List Int) (F : Nat → Prop) (A : Option Addr) (n c : Nat) (what N : Int) (h : Cur d w v L F) (hr : RestAt w F A n c L) (hn : n ≤ 17592186044415) (hw : W64 what) (hN : W64 N) (hmm : pickI what 4 = 3) (hs : N < 0) :
    Calls Try.prog 9 #[v, .slice A n c, .agg #[.int .i64 what, .int .i64 N]] w (MovedTo d w v n F) := by
  have intsTy : AppTy Try.prog 22 3 (.int .i64 0) 1 8 := AppTy.mk' Try.underlying22 (by kernel_rfl) rfl (by decide)
  obtain ⟨p, rfl⟩ := h.isPtr
  have hlt0 := h.lt
  have hlen := hr.len
  have hnc : n ≤ c := VecAt.cap hr
  obtain ⟨kk, hkk⟩ : ∃ kk : Nat, kk = min N.toNat n := ⟨_, rfl⟩
  have hkn : kk ≤ n := by omega
  unfold W64 at hw hN
  have Hpick := Lib.hid (fun W => Pick_nat what 4 3 W hmm hw.1 hw.2 (by omega))
  have H := Lib.hid h
  have Hr := Lib.hid hr
  have Hkk := Lib.hid hkk
  have Hlen := Lib.hid hlen
  clear h hr hkk hlen hmm hw
  refine (callsIn_wide (n := 4)).1 ?_
  refine callsIn_of_wp_marks Try.func9 rfl trivial ?_ rfl
  simp only [Try.ntmps9, List.size_toArray, List.length_cons, List.length_nil, Nat.reduceSub, Nat.reduceAdd, Array.replicate_succ, Array.replicate_zero, List.push_toArray, List.append_toArray, List.nil_append, List.cons_append]
  gi_wp2_with (refine ⟨trivial, ?_⟩; gi_at_call 17; refine (callsIn_wide.2 (Hpick.out _)).mono ?_; rintro e w' ⟨rfl, rfl⟩)
  obtain ⟨W0, hW0⟩ : ∃ W0, (((w.alloc (.cells #[.slice A n c] 22)).alloc (.cells #[.int .i64 what, .int .i64 N] 36)).alloc (.cells #[.slice none 0 0] 22)).alloc (.cells #[.bool false] 4) = W0 := ⟨_, rfl⟩
  have hG0 : Grow w W0 := by rw [← hW0]; exact (((Grow.alloc _ _).trans (Grow.alloc _ _)).trans (Grow.alloc _ _)).trans (Grow.alloc _ _)
  have hbR : Blk W0 w.heap.size 22 #[.slice A n c] := by rw [← hW0]; exact (((Blk.new _ _ _).alloc _).alloc _).alloc _
  have hbM : Blk W0 (w.heap.size + 1) 36 #[.int .i64 what, .int .i64 N] := by
    rw [← hW0]
    have := Blk.new (w.alloc (.cells #[.slice A n c] 22)) 36 #[.int .i64 what, .int .i64 N]
    simp at this
    exact (this.alloc _).alloc _
  have hbO : Blk W0 (w.heap.size + 1 + 1) 22 #[.slice none 0 0] := by
    rw [← hW0]
    have := Blk.new ((w.alloc (.cells #[.slice A n c] 22)).alloc (.cells #[.int .i64 what, .int .i64 N] 36)) 22 #[.slice none 0 0]
    simp at this
    exact this.alloc _
  have hbB : Blk W0 (w.heap.size + 1 + 1 + 1) 4 #[.bool false] := by
    rw [← hW0]
    have := Blk.new (((w.alloc (.cells #[.slice A n c] 22)).alloc (.cells #[.int .i64 what, .int .i64 N] 36)).alloc (.cells #[.slice none 0 0] 22)) 4 #[.bool false]
    simpa using this
  have Hz0 := Lib.hid (show W0.heap.size = w.heap.size + 1 + 1 + 1 + 1 by rw [← hW0]; simp)
  try rw [hW0]
  clear hW0
  have hzB := hbB.lt
  have H0 := Lib.hid (H.out.grow hG0)
  have hbK : Blk (W0.alloc (.cells #[.int .i64 0] 3)) (w.heap.size + 1 + 1 + 1 + 1) 3 #[.int .i64 0] := by
    have h9 := Blk.new W0 3 #[.int .i64 0]
    rw [Hz0.out] at h9
    exact h9
  refine ⟨trivial, ?_⟩
  gi_at_call 30
  refine (callsIn_wide.2 (cAll_any p _)).mono ?_
  rintro e w' ⟨rfl, rfl⟩
  obtain ⟨X, hX⟩ : ∃ X, (W0.alloc (.cells #[.int .i64 0] 3)).heap.size = X := ⟨_, rfl⟩
  have hXz : X = w.heap.size + 5 := by
    rw [← hX]
    have := Hz0.out
    simp
    omega
  rw [hX]
  obtain ⟨W5, hW5⟩ : ∃ W5, (W0.alloc (.cells #[.int .i64 0] 3)).alloc (.cells #[.pointer p] 29) = W5 := ⟨_, rfl⟩
  have hg5 : Grow (W0.alloc (.cells #[.int .i64 0] 3)) W5 := by rw [← hW5]; exact Grow.alloc _ _
  have hx5 : Boxed W5 X 29 (.pointer p) := by rw [← hW5, ← hX]; exact Boxed.new _ _ _
  have hgA := Grow.alloc W0 (.cells #[.int .i64 0] 3)
  have hG5 : Grow w W5 := hG0.trans (hgA.trans hg5)
  have hR5 := Keep.blkOf hg5 (Keep.blkOf hgA hbR)
  have hM5 := Keep.blkOf hg5 (Keep.blkOf hgA hbM)
  have hO5 := Keep.blkOf hg5 (Keep.blkOf hgA hbO)
  have hB5 := Keep.blkOf hg5 (Keep.blkOf hgA hbB)
  have hK5 := Keep.blkOf hg5 hbK
  have hz5 : X < W5.heap.size := hx5.lt
  have HX := Lib.hid hXz
  have hX1 : w.heap.size + 5 ≤ X := by omega
  have hX2 : X ≤ w.heap.size + 5 := by omega
  try rw [hW5]
  clear hW5 hX hXz hgA hg5 hbR hbM hbO hbB hbK
  gi_wp2_with fail
  refine rangeJ rfl (by omega) (gf := 34) (lb := #[.pointer (some ⟨X, 0, none⟩)]) rfl trivial (enters_of Try.func34 (by kernel_rfl) rfl) ?_
  intro fn rec W6 _ hrec hg6 hz6 hD6 hlp6
  have hk6 : Keep (fun _ => False) W5 W6 := (Keep.grown hg6).mono fun j h => by cases h
  have hG6 := hk6.toGrow'
  have hGw := hG5.trans hG6
  have hJ0 : MvI w F W5.heap.size (W5.heap.size + 1) (.loop (rec .ready none)) (.slice A n c) what N (.int .i64 ((0 : Nat) : Int)) (.slice none 0 0) (.bool false) F W6 := ⟨hlp6, hD6, Keep.blkOf hG6 hR5, Keep.blkOf hG6 hM5, Keep.blkOf hG6 hO5, Keep.blkOf hG6 hB5, Keep.blkOf hG6 hK5, Keep.grow hGw, fun j hj => Or.inl hj, fun j hj hF => by have := hlt0 j hF; omega⟩
  refine (cAll1_any d 3 (by omega) (W5.heap.size + 1) X p L (fun k F2 W => k ≤ L.length ∧ MvI w F W5.heap.size (W5.heap.size + 1) (.loop (rec .ready none)) (.slice A n c) what N (.int .i64 (k : Int)) (.slice none 0 0) (.bool false) F2 W)
    (MvN d w (.pointer p) F W5.heap.size (W5.heap.size + 1) (.loop (rec .done (some .ret))) (.slice A n c) what N L (fun k => .slice (cutA A c k 1) (n - k) (c - k))) ?yes (fun k F2 F3 W W' ⟨hk, h1⟩ h2 h3 => ⟨hk, h1.moved h2 h3⟩) W6 F (H.out.grow hGw) (Keep.blkOf hG6 (show Blk W5 X 29 #[.pointer p] from hx5)) (fun hF => by have := hlt0 _ hF; omega) ⟨Nat.zero_le _, hJ0⟩).mono ?_
  case yes =>
    clear hJ0 hk6 hg6 hD6 hlp6 hx5 hG6 hGw hR5 hM5 hO5 hB5 hK5
    intro k x F2 W hx ⟨hkL, hJ⟩ hc hbx hnx
    have hklt : k < n := by have := (List.getElem?_eq_some_iff.1 hx).1; have := Hlen.out; omega
    have hll := (Array.getElem?_eq_some_iff.1 hJ.loop).1
    obtain ⟨b, off, hA, hbF, hbz, hbc⟩ := VecAt.int Hr.out hx
    refine yieldJ trivial hrec hJ.loop rfl ?_
    gi_wp2
    refine roundBody.mk hJ.loop fun w2 hg2 hl2 => ?_
    have hk2 : Keep (fun j => j = W5.heap.size + 1) W w2 := (Keep.grown hg2).mono fun j hj => by injection hj with hj; exact Or.inl hj.symm
    have hcx : w2.cell? ⟨b, off + k, none⟩ = some (.int .i64 x) := ((hJ.keep.trans hk2 fun j hj => Or.inr (by omega)).cell (p := ⟨b, off + k, none⟩) hbz hbF).trans hbc
    have hR2 := hk2.blk hJ.rb (by omega)
    have hM2 := hk2.blk hJ.mb (by omega)
    have hO2 := hk2.blk hJ.ob (by omega)
    have hB2 := hk2.blk hJ.bb (by omega)
    have hK2 := hk2.blk hJ.kb (by omega)
    have hD2 := hk2.obj hJ.defers (by omega)
    have hcR := hR2.cell 0
    have hcM := hM2.cell 1
    have hcO := hO2.cell 0
    have hcB := hB2.cell 0
    have hcK := hK2.cell 0
    have hfO := hO2.frozen 0
    have hfB := hB2.frozen 0
    have hfK := hK2.frozen 0
    have d1 : decide ((n : Int) ≤ (k : Int)) = false := decide_eq_false (by omega)
    have d2 : (x != x) = false := by simp
    have HJ := Lib.hid hJ
    have Hc := Lib.hid hc
    have Hbx := Lib.hid hbx
    have HO2 := Lib.hid hO2
    have HB2 := Lib.hid hB2
    have HK2 := Lib.hid hK2
    have hkn2 : k ≤ n := by omega
    have HLk := Lib.hid hkL
    have hcut := fun W => run_cut_tail intsTy A n c k .i64 (k : Int) rfl hkn2 W
    subst hA
    clear hx hJ hc hbx hO2 hB2 hK2 hR2 hM2 hkL hbF hbz hbc
    by_cases hm : N ≤ (k : Int)
    · have d3 : decide (N ≤ (k : Int)) = true := decide_eq_true hm
      gi_wp2
      have hkA : Keep (fun j => j = w.heap.size + 1 + 1 ∨ j = w.heap.size + 1 + 1 + 1) w2 ((w2.setCell ⟨w.heap.size + 1 + 1, 0, none⟩ (.slice (cutA (some ⟨b, off, none⟩) c k 1) (n - k) (c - k))).setCell ⟨w.heap.size + 1 + 1 + 1, 0, none⟩ (.bool true)) := ((Keep.setCell w2 ⟨w.heap.size + 1 + 1, 0, none⟩ (.slice (cutA (some ⟨b, off, none⟩) c k 1) (n - k) (c - k))).mono fun j hj => Or.inl (Or.inl hj)).trans' ((Keep.setCell _ ⟨w.heap.size + 1 + 1 + 1, 0, none⟩ (.bool true)).mono fun j hj => Or.inl (Or.inr hj))
      have hO4 : Blk ((w2.setCell ⟨w.heap.size + 1 + 1, 0, none⟩ (.slice (cutA (some ⟨b, off, none⟩) c k 1) (n - k) (c - k))).setCell ⟨w.heap.size + 1 + 1 + 1, 0, none⟩ (.bool true)) (w.heap.size + 1 + 1) 22 #[.slice (cutA (some ⟨b, off, none⟩) c k 1) (n - k) (c - k)] := (HO2.out.set 0 (.slice (cutA (some ⟨b, off, none⟩) c k 1) (n - k) (c - k))).far (by simp) _
      have hB4 : Blk ((w2.setCell ⟨w.heap.size + 1 + 1, 0, none⟩ (.slice (cutA (some ⟨b, off, none⟩) c k 1) (n - k) (c - k))).setCell ⟨w.heap.size + 1 + 1 + 1, 0, none⟩ (.bool true)) (w.heap.size + 1 + 1 + 1) 4 #[.bool true] := (HB2.out.far (p := ⟨w.heap.size + 1 + 1, 0, none⟩) (by simp) (.slice (cutA (some ⟨b, off, none⟩) c k 1) (n - k) (c - k))).set 0 (.bool true)
      refine roundEnd.ret (hkA.obj hl2 (by omega)) fun w' hg' hl' => Or.inr ⟨rfl, k, F2, HLk.out, ?_, ?_⟩
      all_goals have hkf : Keep (fun j => j = W5.heap.size + 1 ∨ j = w.heap.size + 1 + 1 ∨ j = w.heap.size + 1 + 1 + 1) W w' := ((hk2.mono fun j hj => Or.inl (Or.inl hj)).trans' (hkA.mono fun j hj => Or.inl (Or.inr hj))).trans' ((Keep.grown hg').mono fun j hj => Or.inl (Or.inl (by injection hj with hj; exact hj.symm)))
      · exact ⟨hl', hkf.obj HJ.out.defers (by omega), hkf.blk HJ.out.rb (by omega), hkf.blk HJ.out.mb (by omega), hO4.grown hg' (by simp; omega), hB4.grown hg' (by simp; omega), hkf.blk HJ.out.kb (by omega), HJ.out.keep.trans hkf (fun j hj => Or.inr (by omega)), HJ.out.from_, HJ.out.off⟩
      · exact Hc.out.kept hkf fun j hj e => HJ.out.off j (by
          rcases e with e | e | e
          · exact Or.inl e
          · exact Or.inr (Or.inr (by omega))
          · exact Or.inr (Or.inr (by omega))) hj
    · omega
  clear hJ0 hk6 hg6 hD6 hlp6 hx5 hG6 hGw hR5 hM5 hO5 hB5 hK5
  rintro e W7 ⟨⟨vv, rfl⟩, hend⟩
  rcases hend with ⟨F2, ⟨-, hI⟩, hc⟩ | ⟨k, F2, hkL, hI, hc⟩
  · rw [Hlen.out] at hI
    refine ⟨vv, .ready, none, rfl, by simp, hI.loop, fun W8 hg8 => ?_⟩
    have hk8 : Keep (fun j => j = W5.heap.size + 1) W7 W8 := (Keep.grown hg8).mono fun j hj => by injection hj with hj; exact Or.inl hj.symm
    have hR8 := hk8.blk hI.rb (by omega)
    have hO8 := hk8.blk hI.ob (by omega)
    have hB8 := hk8.blk hI.bb (by omega)
    have hK8 := hk8.blk hI.kb (by omega)
    have hD8 := hk8.obj hI.defers (by omega)
    have HcR := Lib.hid (show ∀ w3, Keep (fun j => j = w.heap.size + 1 + 1 ∨ j = w.heap.size + 1 + 1 + 1) W8 w3 → w3.cell? ⟨w.heap.size, 0, none⟩ = some (.slice A n c) from fun w3 hk => (hk.blk hR8 (by omega)).cell 0)
    have HcK := Lib.hid (show ∀ w3, Keep (fun j => j = w.heap.size + 1 + 1 ∨ j = w.heap.size + 1 + 1 + 1) W8 w3 → w3.cell? ⟨w.heap.size + 1 + 1 + 1 + 1, 0, none⟩ = some (.int .i64 (n : Int)) from fun w3 hk => (hk.blk hK8 (by omega)).cell 0)
    have HI := Lib.hid hI
    have Hc := Lib.hid hc
    have hnn : ((n : Int) == (n : Int)) = true := by simp
    clear hI hc hR8 hK8
    gi_wp2_with fail
    refine wpIn_wide.2 (wp_region_stages (by kernel_rfl) ?_)
    refine anyOrder_start [4, 5] (Keep (fun j => j = w.heap.size + 1 + 1 ∨ j = w.heap.size + 1 + 1 + 1)) (m19W W8 (w.heap.size + 1 + 1) (w.heap.size + 1 + 1 + 1)) (FactsOn [.is (.int .i64 (n : Int)), .is (.slice A n c), .is (.int .i64 (n : Int)), .is (.bool true), .any, .any]) (fun i => 99) keep_trans keep_grow (m19W.grow) (factsOn_mono _) (by kernel_rfl) (by kernel_rfl) ⟨hO8, hB8, Keep.refl _ _⟩ ?_ ?_
    · refine ⟨?_, ?_, ?_, ?_, ?_, ?_, trivial⟩
      · refine stageOf_free rfl (fun _ _ _ _ _ _ => wanted_none rfl) ?_
        intro us vals w3 a' ha hle hW hd hv K hK
        have q9 : a'.tmps[9]? = some (.pointer (some ⟨w.heap.size + 1 + 1 + 1 + 1, 0, none⟩)) := slot_old ha (by kernel_rfl) (by kernel_rfl)
        have hc := HcK.out w3 hle
        refine step_value (v := .int .i64 (n : Int)) (w2 := w3) ?_ (hK _ _ (Grow.refl _) rfl)
        go_simp
      · refine stageOf_free rfl (fun _ _ _ _ _ _ => wanted_none rfl) ?_
        intro us vals w3 a' ha hle hW hd hv K hK
        have q4 : a'.tmps[4]? = some (.pointer (some ⟨w.heap.size, 0, none⟩)) := slot_old ha (by kernel_rfl) (by kernel_rfl)
        have hc := HcR.out w3 hle
        refine step_value (v := .slice A n c) (w2 := w3) ?_ (hK _ _ (Grow.refl _) rfl)
        go_simp
      · refine stageOf_free rfl (fun _ _ _ _ _ _ => wanted_none rfl) ?_
        intro us vals w3 a' ha hle hW hd hv K hK
        obtain ⟨d1, _⟩ := hd
        have q78 : a'.tmps[78]? = some (us 1) := slot_get ha 1 (by kernel_rfl) (by kernel_rfl)
        rw [show us 1 = .slice A n c from d1] at q78
        refine step_value (v := .int .i64 (n : Int)) (w2 := w3) ?_ (hK _ _ (Grow.refl _) rfl)
        go_simp
      · refine stageOf_free rfl (fun _ _ _ _ _ _ => wanted_none rfl) ?_
        intro us vals w3 a' ha hle hW hd hv K hK
        obtain ⟨d0, d2, _⟩ := hd
        have q77 : a'.tmps[77]? = some (us 0) := slot_get ha 0 (by kernel_rfl) (by kernel_rfl)
        rw [show us 0 = .int .i64 (n : Int) from d0] at q77
        have q79 : a'.tmps[79]? = some (us 2) := slot_get ha 2 (by kernel_rfl) (by kernel_rfl)
        rw [show us 2 = .int .i64 (n : Int) from d2] at q79
        refine step_value (v := .bool true) (w2 := w3) ?_ (hK _ _ (Grow.refl _) rfl)
        go_simp
      · refine stageOf_mem (t := 0) rfl ?_
        intro us vals w3 a' ha hle hW hd hv
        obtain rfl := List.eq_nil_of_length_eq_zero (Nat.le_zero.1 (show vals.length ≤ 0 from Nat.le_of_eq hv))
        refine ⟨wanted_none rfl, fun K hK => ?_⟩
        have q6 : a'.tmps[6]? = some (.pointer (some ⟨w.heap.size + 1 + 1, 0, none⟩)) := slot_old ha (by kernel_rfl) (by kernel_rfl)
        obtain ⟨hO3, hB3, hk3⟩ := hW
        have hf := hO3.frozen 0
        have hc := hO3.cell 0
        have hk9 := Keep.setCell w3 ⟨w.heap.size + 1 + 1, 0, none⟩ (.slice none 0 0)
        refine step_skip (w2 := w3.setCell ⟨w.heap.size + 1 + 1, 0, none⟩ (.slice none 0 0)) ?_ (hK _ _ (hk9.mono fun j hj => Or.inl (Or.inl hj)) ⟨hO3.set 0 (.slice none 0 0), hB3.far (by simp) _, hk3.trans' (hk9.mono fun j hj => Or.inl (Or.inl hj))⟩)
        go_simp
      · refine stageOf_mem (t := 1) rfl ?_
        intro us vals w3 a' ha hle hW hd hv
        obtain ⟨d3, _, _, _, _, _, _, _⟩ := hd
        obtain ⟨x0, rfl⟩ := List.length_eq_one_iff.1 hv
        refine ⟨wanted_none rfl, fun K hK => ?_⟩
        have q7 : a'.tmps[7]? = some (.pointer (some ⟨w.heap.size + 1 + 1 + 1, 0, none⟩)) := slot_old ha (by kernel_rfl) (by kernel_rfl)
        have q80 : a'.tmps[80]? = some (us 3) := slot_get ha 3 (by kernel_rfl) (by kernel_rfl)
        rw [show us 3 = .bool true from d3] at q80
        obtain ⟨hO3, hB3, hk3⟩ := hW
        have hf := hB3.frozen 0
        have hc := hB3.cell 0
        have hk9 := Keep.setCell w3 ⟨w.heap.size + 1 + 1 + 1, 0, none⟩ (.bool true)
        refine step_skip (w2 := w3.setCell ⟨w.heap.size + 1 + 1 + 1, 0, none⟩ (.bool true)) ?_ (hK _ _ (hk9.mono fun j hj => Or.inl (Or.inr hj)) ⟨hO3.far (by simp) _, hB3.set 0 (.bool true), hk3.trans' (hk9.mono fun j hj => Or.inl (Or.inr hj))⟩)
        go_simp
    · intro us vals w9 hle hvl hV _ hf
      obtain ⟨x0, x1, rfl⟩ := len2 hvl
      obtain ⟨hO9, hB9, hk9⟩ := hV
      have hD9 := hk9.obj hD8 (by omega)
      clear hf hle
      simp only [fills, Act.put, List.setIfInBounds_toArray, List.set_cons_succ, List.set_cons_zero]
      gi_wp2
      refine leaves_marks (by simp) (B := w.heap.size + 2) [W5.heap.size] _ ⟨by simp, fun m hm => by simp at hm; omega, fun m hm => by simp at hm; rw [hm]; exact hD9⟩ fun wz ho => ?_
      have hkM := Keep.only ho
      have hO1 := hkM.blk hO9 (by simp; omega)
      have hB1 := hkM.blk hB9 (by simp; omega)
      have hc1 := hO1.cell 0
      have hc2 := hB1.cell 0
      have hkA : Keep (fun j => j = W5.heap.size + 1 ∨ j = w.heap.size + 1 + 1 ∨ j = w.heap.size + 1 + 1 + 1 ∨ j = W5.heap.size) W7 wz := ((hk8.mono fun j hj => Or.inl (Or.inl hj)).trans' (hk9.mono fun j hj => Or.inl (by omega))).trans' (hkM.mono fun j hj => Or.inl (by simp at hj; omega))
      exact ⟨_, results_cells2 rfl _ _ (w.heap.size + 1 + 1) (w.heap.size + 1 + 1 + 1) (.slice none 0 0) (.bool true) rfl rfl (by go_simp) (by go_simp), moved_fin (RestAt.nil w F) (Nat.zero_le _) Hc.out HI.out.keep HI.out.from_ hkA fun j hj => ⟨by omega, HI.out.off j (by omega)⟩⟩
  · refine ⟨vv, .done, some .ret, rfl, by simp, hI.loop, fun W8 hg8 => ?_⟩
    have hk8 : Keep (fun j => j = W5.heap.size + 1) W7 W8 := (Keep.grown hg8).mono fun j hj => by injection hj with hj; exact Or.inl hj.symm
    have hO8 := hk8.blk hI.ob (by omega)
    have hB8 := hk8.blk hI.bb (by omega)
    have hD8 := hk8.obj hI.defers (by omega)
    have HI := Lib.hid hI
    have Hc := Lib.hid hc
    have hkn2 : k ≤ n := by have := Hlen.out; omega
    clear hI hc hkL
    gi_wp2
    refine leaves_marks (by simp) (B := w.heap.size + 2) [W5.heap.size] _ ⟨by simp, fun m hm => by simp at hm; omega, fun m hm => by simp at hm; rw [hm]; exact hD8⟩ fun wz ho => ?_
    have hkM := Keep.only ho
    have hO1 := hkM.blk hO8 (by simp; omega)
    have hB1 := hkM.blk hB8 (by simp; omega)
    have hc1 := hO1.cell 0
    have hc2 := hB1.cell 0
    have hkA : Keep (fun j => j = W5.heap.size + 1 ∨ j = W5.heap.size) W7 wz := (hk8.mono fun j hj => Or.inl (Or.inl hj)).trans' (hkM.mono fun j hj => Or.inl (by simp at hj; omega))
    exact ⟨_, results_cells2 rfl _ _ (w.heap.size + 1 + 1) (w.heap.size + 1 + 1 + 1) (.slice (cutA A c k 1) (n - k) (c - k)) (.bool true) rfl rfl (by go_simp) (by go_simp), moved_fin (Hr.out.drop hkn2) (Nat.sub_le _ _) Hc.out HI.out.keep HI.out.from_ hkA fun j hj => ⟨by omega, HI.out.off j (by omega)⟩⟩
set_option maxRecDepth 100000 in
set_option maxHeartbeats 4000000 in
theorem moved_3p (d : Nat) (w : World) (v : Value) (L : List Int) (F : Nat → Prop) (A : Option Addr) (n c : Nat) (what N : Int) (h : Cur d w v L F) (hr : RestAt w F A n c L) (hn : n ≤ 17592186044415) (hw : W64 what) (hN : W64 N) (hmm : pickI what 4 = 3) (hs : 0 ≤ N) :
    Calls Try.prog 9 #[v, .slice A n c, .agg #[.int .i64 what, .int .i64 N]] w (MovedTo d w v n F) := by
  have intsTy : AppTy Try.prog 22 3 (.int .i64 0) 1 8 := AppTy.mk' Try.underlying22 (by kernel_rfl) rfl (by decide)
  obtain ⟨p, rfl⟩ := h.isPtr
  have hlt0 := h.lt
  have hlen := hr.len
  have hnc : n ≤ c := VecAt.cap hr
  obtain ⟨kk, hkk⟩ : ∃ kk : Nat, kk = min N.toNat n := ⟨_, rfl⟩
  have hkn : kk ≤ n := by omega
  have hm : (if (n : Int) < N then (n : Int) else N) = (kk : Int) := by split <;> omega
  have Hm := Lib.hid hm
  clear hm
  unfold W64 at hw hN
  have Hpick := Lib.hid (fun W => Pick_nat what 4 3 W hmm hw.1 hw.2 (by omega))
  have H := Lib.hid h
  have Hr := Lib.hid hr
  have Hkk := Lib.hid hkk
  have Hlen := Lib.hid hlen
  clear h hr hkk hlen hmm hw
  refine (callsIn_wide (n := 4)).1 ?_
  refine callsIn_of_wp_marks Try.func9 rfl trivial ?_ rfl
  simp only [Try.ntmps9, List.size_toArray, List.length_cons, List.length_nil, Nat.reduceSub, Nat.reduceAdd, Array.replicate_succ, Array.replicate_zero, List.push_toArray, List.append_toArray, List.nil_append, List.cons_append]
  gi_wp2_with (refine ⟨trivial, ?_⟩; rw [Hm.out]; gi_at_call 17; refine (callsIn_wide.2 (Hpick.out _)).mono ?_; rintro e w' ⟨rfl, rfl⟩)
  obtain ⟨W0, hW0⟩ : ∃ W0, (((w.alloc (.cells #[.slice A n c] 22)).alloc (.cells #[.int .i64 what, .int .i64 N] 36)).alloc (.cells #[.slice none 0 0] 22)).alloc (.cells #[.bool false] 4) = W0 := ⟨_, rfl⟩
  have hG0 : Grow w W0 := by rw [← hW0]; exact (((Grow.alloc _ _).trans (Grow.alloc _ _)).trans (Grow.alloc _ _)).trans (Grow.alloc _ _)
  have hbR : Blk W0 w.heap.size 22 #[.slice A n c] := by rw [← hW0]; exact (((Blk.new _ _ _).alloc _).alloc _).alloc _
  have hbM : Blk W0 (w.heap.size + 1) 36 #[.int .i64 what, .int .i64 N] := by
    rw [← hW0]
    have := Blk.new (w.alloc (.cells #[.slice A n c] 22)) 36 #[.int .i64 what, .int .i64 N]
    simp at this
    exact (this.alloc _).alloc _
  have hbO : Blk W0 (w.heap.size + 1 + 1) 22 #[.slice none 0 0] := by
    rw [← hW0]
    have := Blk.new ((w.alloc (.cells #[.slice A n c] 22)).alloc (.cells #[.int .i64 what, .int .i64 N] 36)) 22 #[.slice none 0 0]
    simp at this
    exact this.alloc _
  have hbB : Blk W0 (w.heap.size + 1 + 1 + 1) 4 #[.bool false] := by
    rw [← hW0]
    have := Blk.new (((w.alloc (.cells #[.slice A n c] 22)).alloc (.cells #[.int .i64 what, .int .i64 N] 36)).alloc (.cells #[.slice none 0 0] 22)) 4 #[.bool false]
    simpa using this
  have Hz0 := Lib.hid (show W0.heap.size = w.heap.size + 1 + 1 + 1 + 1 by rw [← hW0]; simp)
  try rw [hW0]
  clear hW0
  have hzB := hbB.lt
  have H0 := Lib.hid (H.out.grow hG0)
  have hbK : Blk (W0.alloc (.cells #[.int .i64 0] 3)) (w.heap.size + 1 + 1 + 1 + 1) 3 #[.int .i64 0] := by
    have h9 := Blk.new W0 3 #[.int .i64 0]
    rw [Hz0.out] at h9
    exact h9
  refine ⟨trivial, ?_⟩
  gi_at_call 30
  refine (callsIn_wide.2 (cAll_any p _)).mono ?_
  rintro e w' ⟨rfl, rfl⟩
  obtain ⟨X, hX⟩ : ∃ X, (W0.alloc (.cells #[.int .i64 0] 3)).heap.size = X := ⟨_, rfl⟩
  have hXz : X = w.heap.size + 5 := by
    rw [← hX]
    have := Hz0.out
    simp
    omega
  rw [hX]
  obtain ⟨W5, hW5⟩ : ∃ W5, (W0.alloc (.cells #[.int .i64 0] 3)).alloc (.cells #[.pointer p] 29) = W5 := ⟨_, rfl⟩
  have hg5 : Grow (W0.alloc (.cells #[.int .i64 0] 3)) W5 := by rw [← hW5]; exact Grow.alloc _ _
  have hx5 : Boxed W5 X 29 (.pointer p) := by rw [← hW5, ← hX]; exact Boxed.new _ _ _
  have hgA := Grow.alloc W0 (.cells #[.int .i64 0] 3)
  have hG5 : Grow w W5 := hG0.trans (hgA.trans hg5)
  have hR5 := Keep.blkOf hg5 (Keep.blkOf hgA hbR)
  have hM5 := Keep.blkOf hg5 (Keep.blkOf hgA hbM)
  have hO5 := Keep.blkOf hg5 (Keep.blkOf hgA hbO)
  have hB5 := Keep.blkOf hg5 (Keep.blkOf hgA hbB)
  have hK5 := Keep.blkOf hg5 hbK
  have hz5 : X < W5.heap.size := hx5.lt
  have HX := Lib.hid hXz
  have hX1 : w.heap.size + 5 ≤ X := by omega
  have hX2 : X ≤ w.heap.size + 5 := by omega
  try rw [hW5]
  clear hW5 hX hXz hgA hg5 hbR hbM hbO hbB hbK
  gi_wp2_with fail
  refine rangeJ rfl (by omega) (gf := 34) (lb := #[.pointer (some ⟨X, 0, none⟩)]) rfl trivial (enters_of Try.func34 (by kernel_rfl) rfl) ?_
  intro fn rec W6 _ hrec hg6 hz6 hD6 hlp6
  have hk6 : Keep (fun _ => False) W5 W6 := (Keep.grown hg6).mono fun j h => by cases h
  have hG6 := hk6.toGrow'
  have hGw := hG5.trans hG6
  have hJ0 : MvI w F W5.heap.size (W5.heap.size + 1) (.loop (rec .ready none)) (.slice A n c) what N (.int .i64 ((0 : Nat) : Int)) (.slice none 0 0) (.bool false) F W6 := ⟨hlp6, hD6, Keep.blkOf hG6 hR5, Keep.blkOf hG6 hM5, Keep.blkOf hG6 hO5, Keep.blkOf hG6 hB5, Keep.blkOf hG6 hK5, Keep.grow hGw, fun j hj => Or.inl hj, fun j hj hF => by have := hlt0 j hF; omega⟩
  refine (cAll1_any d 3 (by omega) (W5.heap.size + 1) X p L (fun k F2 W => k ≤ L.length ∧ MvI w F W5.heap.size (W5.heap.size + 1) (.loop (rec .ready none)) (.slice A n c) what N (.int .i64 (k : Int)) (.slice none 0 0) (.bool false) F2 W)
    (MvN d w (.pointer p) F W5.heap.size (W5.heap.size + 1) (.loop (rec .done (some .ret))) (.slice A n c) what N L (fun k => .slice (cutA A c k 1) (n - k) (c - k))) ?yes (fun k F2 F3 W W' ⟨hk, h1⟩ h2 h3 => ⟨hk, h1.moved h2 h3⟩) W6 F (H.out.grow hGw) (Keep.blkOf hG6 (show Blk W5 X 29 #[.pointer p] from hx5)) (fun hF => by have := hlt0 _ hF; omega) ⟨Nat.zero_le _, hJ0⟩).mono ?_
  case yes =>
    clear hJ0 hk6 hg6 hD6 hlp6 hx5 hG6 hGw hR5 hM5 hO5 hB5 hK5
    intro k x F2 W hx ⟨hkL, hJ⟩ hc hbx hnx
    have hklt : k < n := by have := (List.getElem?_eq_some_iff.1 hx).1; have := Hlen.out; omega
    have hll := (Array.getElem?_eq_some_iff.1 hJ.loop).1
    obtain ⟨b, off, hA, hbF, hbz, hbc⟩ := VecAt.int Hr.out hx
    refine yieldJ trivial hrec hJ.loop rfl ?_
    gi_wp2
    refine roundBody.mk hJ.loop fun w2 hg2 hl2 => ?_
    have hk2 : Keep (fun j => j = W5.heap.size + 1) W w2 := (Keep.grown hg2).mono fun j hj => by injection hj with hj; exact Or.inl hj.symm
    have hcx : w2.cell? ⟨b, off + k, none⟩ = some (.int .i64 x) := ((hJ.keep.trans hk2 fun j hj => Or.inr (by omega)).cell (p := ⟨b, off + k, none⟩) hbz hbF).trans hbc
    have hR2 := hk2.blk hJ.rb (by omega)
    have hM2 := hk2.blk hJ.mb (by omega)
    have hO2 := hk2.blk hJ.ob (by omega)
    have hB2 := hk2.blk hJ.bb (by omega)
    have hK2 := hk2.blk hJ.kb (by omega)
    have hD2 := hk2.obj hJ.defers (by omega)
    have hcR := hR2.cell 0
    have hcM := hM2.cell 1
    have hcO := hO2.cell 0
    have hcB := hB2.cell 0
    have hcK := hK2.cell 0
    have hfO := hO2.frozen 0
    have hfB := hB2.frozen 0
    have hfK := hK2.frozen 0
    have d1 : decide ((n : Int) ≤ (k : Int)) = false := decide_eq_false (by omega)
    have d2 : (x != x) = false := by simp
    have HJ := Lib.hid hJ
    have Hc := Lib.hid hc
    have Hbx := Lib.hid hbx
    have HO2 := Lib.hid hO2
    have HB2 := Lib.hid hB2
    have HK2 := Lib.hid hK2
    have hkn2 : k ≤ n := by omega
    have HLk := Lib.hid hkL
    have hcut := fun W => run_cut_tail intsTy A n c k .i64 (k : Int) rfl hkn2 W
    subst hA
    clear hx hJ hc hbx hO2 hB2 hK2 hR2 hM2 hkL hbF hbz hbc
    by_cases hm : N ≤ (k : Int)
    · have d3 : decide (N ≤ (k : Int)) = true := decide_eq_true hm
      gi_wp2
      have hkA : Keep (fun j => j = w.heap.size + 1 + 1 ∨ j = w.heap.size + 1 + 1 + 1) w2 ((w2.setCell ⟨w.heap.size + 1 + 1, 0, none⟩ (.slice (cutA (some ⟨b, off, none⟩) c k 1) (n - k) (c - k))).setCell ⟨w.heap.size + 1 + 1 + 1, 0, none⟩ (.bool true)) := ((Keep.setCell w2 ⟨w.heap.size + 1 + 1, 0, none⟩ (.slice (cutA (some ⟨b, off, none⟩) c k 1) (n - k) (c - k))).mono fun j hj => Or.inl (Or.inl hj)).trans' ((Keep.setCell _ ⟨w.heap.size + 1 + 1 + 1, 0, none⟩ (.bool true)).mono fun j hj => Or.inl (Or.inr hj))
      have hO4 : Blk ((w2.setCell ⟨w.heap.size + 1 + 1, 0, none⟩ (.slice (cutA (some ⟨b, off, none⟩) c k 1) (n - k) (c - k))).setCell ⟨w.heap.size + 1 + 1 + 1, 0, none⟩ (.bool true)) (w.heap.size + 1 + 1) 22 #[.slice (cutA (some ⟨b, off, none⟩) c k 1) (n - k) (c - k)] := (HO2.out.set 0 (.slice (cutA (some ⟨b, off, none⟩) c k 1) (n - k) (c - k))).far (by simp) _
      have hB4 : Blk ((w2.setCell ⟨w.heap.size + 1 + 1, 0, none⟩ (.slice (cutA (some ⟨b, off, none⟩) c k 1) (n - k) (c - k))).setCell ⟨w.heap.size + 1 + 1 + 1, 0, none⟩ (.bool true)) (w.heap.size + 1 + 1 + 1) 4 #[.bool true] := (HB2.out.far (p := ⟨w.heap.size + 1 + 1, 0, none⟩) (by simp) (.slice (cutA (some ⟨b, off, none⟩) c k 1) (n - k) (c - k))).set 0 (.bool true)
      refine roundEnd.ret (hkA.obj hl2 (by omega)) fun w' hg' hl' => Or.inr ⟨rfl, k, F2, HLk.out, ?_, ?_⟩
      all_goals have hkf : Keep (fun j => j = W5.heap.size + 1 ∨ j = w.heap.size + 1 + 1 ∨ j = w.heap.size + 1 + 1 + 1) W w' := ((hk2.mono fun j hj => Or.inl (Or.inl hj)).trans' (hkA.mono fun j hj => Or.inl (Or.inr hj))).trans' ((Keep.grown hg').mono fun j hj => Or.inl (Or.inl (by injection hj with hj; exact hj.symm)))
      · exact ⟨hl', hkf.obj HJ.out.defers (by omega), hkf.blk HJ.out.rb (by omega), hkf.blk HJ.out.mb (by omega), hO4.grown hg' (by simp; omega), hB4.grown hg' (by simp; omega), hkf.blk HJ.out.kb (by omega), HJ.out.keep.trans hkf (fun j hj => Or.inr (by omega)), HJ.out.from_, HJ.out.off⟩
      · exact Hc.out.kept hkf fun j hj e => HJ.out.off j (by
          rcases e with e | e | e
          · exact Or.inl e
          · exact Or.inr (Or.inr (by omega))
          · exact Or.inr (Or.inr (by omega))) hj
    · have d3 : decide (N ≤ (k : Int)) = false := decide_eq_false hm
      gi_wp2
      have hkA : Keep (fun j => j = w.heap.size + 1 + 1 + 1 + 1) w2 (w2.setCell ⟨w.heap.size + 1 + 1 + 1 + 1, 0, none⟩ (.int .i64 ((k : Int) + 1))) := Keep.setCell w2 ⟨w.heap.size + 1 + 1 + 1 + 1, 0, none⟩ _
      have hK4 : Blk (w2.setCell ⟨w.heap.size + 1 + 1 + 1 + 1, 0, none⟩ (.int .i64 ((k : Int) + 1))) (w.heap.size + 1 + 1 + 1 + 1) 3 #[.int .i64 ((k : Int) + 1)] := HK2.out.set 0 _
      refine roundEnd.on (hkA.obj hl2 (by omega)) fun w' hg' hl' => Or.inl ⟨rfl, ⟨by have := Hlen.out; omega, ?_⟩, ?_, ?_⟩
      all_goals have hkf : Keep (fun j => j = W5.heap.size + 1 ∨ j = w.heap.size + 1 + 1 + 1 + 1) W w' := ((hk2.mono fun j hj => Or.inl (Or.inl hj)).trans' (hkA.mono fun j hj => Or.inl (Or.inr hj))).trans' ((Keep.grown hg').mono fun j hj => Or.inl (Or.inl (by injection hj with hj; exact hj.symm)))
      · exact ⟨hl', hkf.obj HJ.out.defers (by omega), hkf.blk HJ.out.rb (by omega), hkf.blk HJ.out.mb (by omega), hkf.blk HJ.out.ob (by omega), hkf.blk HJ.out.bb (by omega), hK4.grown hg' (by simp; omega), HJ.out.keep.trans hkf (fun j hj => Or.inr (by omega)), HJ.out.from_, HJ.out.off⟩
      · exact Hc.out.kept hkf fun j hj e => HJ.out.off j (by
          rcases e with e | e
          · exact Or.inl e
          · exact Or.inr (Or.inr (by omega))) hj
      · exact hkf.blk (show Blk W X 29 #[.pointer p] from Hbx.out) (by omega)
  clear hJ0 hk6 hg6 hD6 hlp6 hx5 hG6 hGw hR5 hM5 hO5 hB5 hK5
  rintro e W7 ⟨⟨vv, rfl⟩, hend⟩
  rcases hend with ⟨F2, ⟨-, hI⟩, hc⟩ | ⟨k, F2, hkL, hI, hc⟩
  · rw [Hlen.out] at hI
    refine ⟨vv, .ready, none, rfl, by simp, hI.loop, fun W8 hg8 => ?_⟩
    have hk8 : Keep (fun j => j = W5.heap.size + 1) W7 W8 := (Keep.grown hg8).mono fun j hj => by injection hj with hj; exact Or.inl hj.symm
    have hR8 := hk8.blk hI.rb (by omega)
    have hO8 := hk8.blk hI.ob (by omega)
    have hB8 := hk8.blk hI.bb (by omega)
    have hK8 := hk8.blk hI.kb (by omega)
    have hD8 := hk8.obj hI.defers (by omega)
    have HcR := Lib.hid (show ∀ w3, Keep (fun j => j = w.heap.size + 1 + 1 ∨ j = w.heap.size + 1 + 1 + 1) W8 w3 → w3.cell? ⟨w.heap.size, 0, none⟩ = some (.slice A n c) from fun w3 hk => (hk.blk hR8 (by omega)).cell 0)
    have HcK := Lib.hid (show ∀ w3, Keep (fun j => j = w.heap.size + 1 + 1 ∨ j = w.heap.size + 1 + 1 + 1) W8 w3 → w3.cell? ⟨w.heap.size + 1 + 1 + 1 + 1, 0, none⟩ = some (.int .i64 (n : Int)) from fun w3 hk => (hk.blk hK8 (by omega)).cell 0)
    have HI := Lib.hid hI
    have Hc := Lib.hid hc
    have hnn : ((n : Int) == (n : Int)) = true := by simp
    clear hI hc hR8 hK8
    gi_wp2_with fail
    refine wpIn_wide.2 (wp_region_stages (by kernel_rfl) ?_)
    refine anyOrder_start [4, 5] (Keep (fun j => j = w.heap.size + 1 + 1 ∨ j = w.heap.size + 1 + 1 + 1)) (m19W W8 (w.heap.size + 1 + 1) (w.heap.size + 1 + 1 + 1)) (FactsOn [.is (.int .i64 (n : Int)), .is (.slice A n c), .is (.int .i64 (n : Int)), .is (.bool true), .any, .any]) (fun i => 99) keep_trans keep_grow (m19W.grow) (factsOn_mono _) (by kernel_rfl) (by kernel_rfl) ⟨hO8, hB8, Keep.refl _ _⟩ ?_ ?_
    · refine ⟨?_, ?_, ?_, ?_, ?_, ?_, trivial⟩
      · refine stageOf_free rfl (fun _ _ _ _ _ _ => wanted_none rfl) ?_
        intro us vals w3 a' ha hle hW hd hv K hK
        have q9 : a'.tmps[9]? = some (.pointer (some ⟨w.heap.size + 1 + 1 + 1 + 1, 0, none⟩)) := slot_old ha (by kernel_rfl) (by kernel_rfl)
        have hc := HcK.out w3 hle
        refine step_value (v := .int .i64 (n : Int)) (w2 := w3) ?_ (hK _ _ (Grow.refl _) rfl)
        go_simp
      · refine stageOf_free rfl (fun _ _ _ _ _ _ => wanted_none rfl) ?_
        intro us vals w3 a' ha hle hW hd hv K hK
        have q4 : a'.tmps[4]? = some (.pointer (some ⟨w.heap.size, 0, none⟩)) := slot_old ha (by kernel_rfl) (by kernel_rfl)
        have hc := HcR.out w3 hle
        refine step_value (v := .slice A n c) (w2 := w3) ?_ (hK _ _ (Grow.refl _) rfl)
        go_simp
      · refine stageOf_free rfl (fun _ _ _ _ _ _ => wanted_none rfl) ?_
        intro us vals w3 a' ha hle hW hd hv K hK
        obtain ⟨d1, _⟩ := hd
        have q78 : a'.tmps[78]? = some (us 1) := slot_get ha 1 (by kernel_rfl) (by kernel_rfl)
        rw [show us 1 = .slice A n c from d1] at q78
        refine step_value (v := .int .i64 (n : Int)) (w2 := w3) ?_ (hK _ _ (Grow.refl _) rfl)
        go_simp
      · refine stageOf_free rfl (fun _ _ _ _ _ _ => wanted_none rfl) ?_
        intro us vals w3 a' ha hle hW hd hv K hK
        obtain ⟨d0, d2, _⟩ := hd
        have q77 : a'.tmps[77]? = some (us 0) := slot_get ha 0 (by kernel_rfl) (by kernel_rfl)
        rw [show us 0 = .int .i64 (n : Int) from d0] at q77
        have q79 : a'.tmps[79]? = some (us 2) := slot_get ha 2 (by kernel_rfl) (by kernel_rfl)
        rw [show us 2 = .int .i64 (n : Int) from d2] at q79
        refine step_value (v := .bool true) (w2 := w3) ?_ (hK _ _ (Grow.refl _) rfl)
        go_simp
      · refine stageOf_mem (t := 0) rfl ?_
        intro us vals w3 a' ha hle hW hd hv
        obtain rfl := List.eq_nil_of_length_eq_zero (Nat.le_zero.1 (show vals.length ≤ 0 from Nat.le_of_eq hv))
        refine ⟨wanted_none rfl, fun K hK => ?_⟩
        have q6 : a'.tmps[6]? = some (.pointer (some ⟨w.heap.size + 1 + 1, 0, none⟩)) := slot_old ha (by kernel_rfl) (by kernel_rfl)
        obtain ⟨hO3, hB3, hk3⟩ := hW
        have hf := hO3.frozen 0
        have hc := hO3.cell 0
        have hk9 := Keep.setCell w3 ⟨w.heap.size + 1 + 1, 0, none⟩ (.slice none 0 0)
        refine step_skip (w2 := w3.setCell ⟨w.heap.size + 1 + 1, 0, none⟩ (.slice none 0 0)) ?_ (hK _ _ (hk9.mono fun j hj => Or.inl (Or.inl hj)) ⟨hO3.set 0 (.slice none 0 0), hB3.far (by simp) _, hk3.trans' (hk9.mono fun j hj => Or.inl (Or.inl hj))⟩)
        go_simp
      · refine stageOf_mem (t := 1) rfl ?_
        intro us vals w3 a' ha hle hW hd hv
        obtain ⟨d3, _, _, _, _, _, _, _⟩ := hd
        obtain ⟨x0, rfl⟩ := List.length_eq_one_iff.1 hv
        refine ⟨wanted_none rfl, fun K hK => ?_⟩
        have q7 : a'.tmps[7]? = some (.pointer (some ⟨w.heap.size + 1 + 1 + 1, 0, none⟩)) := slot_old ha (by kernel_rfl) (by kernel_rfl)
        have q80 : a'.tmps[80]? = some (us 3) := slot_get ha 3 (by kernel_rfl) (by kernel_rfl)
        rw [show us 3 = .bool true from d3] at q80
        obtain ⟨hO3, hB3, hk3⟩ := hW
        have hf := hB3.frozen 0
        have hc := hB3.cell 0
        have hk9 := Keep.setCell w3 ⟨w.heap.size + 1 + 1 + 1, 0, none⟩ (.bool true)
        refine step_skip (w2 := w3.setCell ⟨w.heap.size + 1 + 1 + 1, 0, none⟩ (.bool true)) ?_ (hK _ _ (hk9.mono fun j hj => Or.inl (Or.inr hj)) ⟨hO3.far (by simp) _, hB3.set 0 (.bool true), hk3.trans' (hk9.mono fun j hj => Or.inl (Or.inr hj))⟩)
        go_simp
    · intro us vals w9 hle hvl hV _ hf
      obtain ⟨x0, x1, rfl⟩ := len2 hvl
      obtain ⟨hO9, hB9, hk9⟩ := hV
      have hD9 := hk9.obj hD8 (by omega)
      clear hf hle
      simp only [fills, Act.put, List.setIfInBounds_toArray, List.set_cons_succ, List.set_cons_zero]
      gi_wp2
      refine leaves_marks (by simp) (B := w.heap.size + 2) [W5.heap.size] _ ⟨by simp, fun m hm => by simp at hm; omega, fun m hm => by simp at hm; rw [hm]; exact hD9⟩ fun wz ho => ?_
      have hkM := Keep.only ho
      have hO1 := hkM.blk hO9 (by simp; omega)
      have hB1 := hkM.blk hB9 (by simp; omega)
      have hc1 := hO1.cell 0
      have hc2 := hB1.cell 0
      have hkA : Keep (fun j => j = W5.heap.size + 1 ∨ j = w.heap.size + 1 + 1 ∨ j = w.heap.size + 1 + 1 + 1 ∨ j = W5.heap.size) W7 wz := ((hk8.mono fun j hj => Or.inl (Or.inl hj)).trans' (hk9.mono fun j hj => Or.inl (by omega))).trans' (hkM.mono fun j hj => Or.inl (by simp at hj; omega))
      exact ⟨_, results_cells2 rfl _ _ (w.heap.size + 1 + 1) (w.heap.size + 1 + 1 + 1) (.slice none 0 0) (.bool true) rfl rfl (by go_simp) (by go_simp), moved_fin (RestAt.nil w F) (Nat.zero_le _) Hc.out HI.out.keep HI.out.from_ hkA fun j hj => ⟨by omega, HI.out.off j (by omega)⟩⟩
  · refine ⟨vv, .done, some .ret, rfl, by simp, hI.loop, fun W8 hg8 => ?_⟩
    have hk8 : Keep (fun j => j = W5.heap.size + 1) W7 W8 := (Keep.grown hg8).mono fun j hj => by injection hj with hj; exact Or.inl hj.symm
    have hO8 := hk8.blk hI.ob (by omega)
    have hB8 := hk8.blk hI.bb (by omega)
    have hD8 := hk8.obj hI.defers (by omega)
    have HI := Lib.hid hI
    have Hc := Lib.hid hc
    have hkn2 : k ≤ n := by have := Hlen.out; omega
    clear hI hc hkL
    gi_wp2
    refine leaves_marks (by simp) (B := w.heap.size + 2) [W5.heap.size] _ ⟨by simp, fun m hm => by simp at hm; omega, fun m hm => by simp at hm; rw [hm]; exact hD8⟩ fun wz ho => ?_
    have hkM := Keep.only ho
    have hO1 := hkM.blk hO8 (by simp; omega)
    have hB1 := hkM.blk hB8 (by simp; omega)
    have hc1 := hO1.cell 0
    have hc2 := hB1.cell 0
    have hkA : Keep (fun j => j = W5.heap.size + 1 ∨ j = W5.heap.size) W7 wz := (hk8.mono fun j hj => Or.inl (Or.inl hj)).trans' (hkM.mono fun j hj => Or.inl (by simp at hj; omega))
    exact ⟨_, results_cells2 rfl _ _ (w.heap.size + 1 + 1) (w.heap.size + 1 + 1 + 1) (.slice (cutA A c k 1) (n - k) (c - k)) (.bool true) rfl rfl (by go_simp) (by go_simp), moved_fin (Hr.out.drop hkn2) (Nat.sub_le _ _) Hc.out HI.out.keep HI.out.from_ hkA fun j hj => ⟨by omega, HI.out.off j (by omega)⟩⟩
theorem moved_any (d : Nat) (w : World) (v : Value) (L : List Int) (F : Nat → Prop) (A : Option Addr) (n c : Nat) (what N : Int) (h : Cur d w v L F) (hr : RestAt w F A n c L) (hn : n ≤ 17592186044415) (hw : W64 what) (hN : W64 N) :
    Calls Try.prog 9 #[v, .slice A n c, .agg #[.int .i64 what, .int .i64 N]] w (MovedTo d w v n F) := by
  have h1 := pickI_lt what 4 (by omega)
  have h0 := pickI_nonneg what 4
  rcases (show pickI what 4 = 0 ∨ pickI what 4 = 1 ∨ pickI what 4 = 2 ∨ pickI what 4 = 3 by omega) with hm | hm | hm | hm <;> rcases Int.lt_or_le N 0 with hs | hs
  · exact moved_0n d w v L F A n c what N h hr hn hw hN hm hs
  · exact moved_0p d w v L F A n c what N h hr hn hw hN hm hs
  · exact moved_1n d w v L F A n c what N h hr hn hw hN hm hs
  · exact moved_1p d w v L F A n c what N h hr hn hw hN hm hs
  · exact moved_2n d w v L F A n c what N h hr hn hw hN hm hs
  · exact moved_2p d w v L F A n c what N h hr hn hw hN hm hs
  · exact moved_3n d w v L F A n c what N h hr hn hw hN hm hs
  · exact moved_3p d w v L F A n c what N h hr hn hw hN hm hs
end Go.Proofs.Ythjnggclemhgkaa
