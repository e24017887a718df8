/-
  The walk of cursor's Take: numbers of the rest, as many as are asked for.
-/
import Derived.Test.YtamdejidkgnaeaaCurAll
import Derived.Test.YtamdejidkgnaeaaCurRef
import Derived.Test.YtamdejidkgnaeaaCurJoin
import Derived.Test.YtamdejidkgnaeaaBaseD
import Derived.Shelf.Abstract
import Derived.OwnWalkIn
import Derived.TacticsInMore
import Derived.Deep.LoopGhost
import Derived.BigQuiet
import Derived.WalkMore
import Derived.IntWalk
import Derived.RangeFuncBox
import Derived.RangeFuncCalls
namespace Go.Proofs.Ytamdejidkgnaeaa
open Go.RowKit Go.Shelf CurM
set_option linter.unusedVariables false
attribute [local go_sem] Oper.semAt_some

theorem Keep.toGrow' {w w1 : World} (h : Keep (fun _ => False) w w1) : Grow w w1 := h.below (fun _ h => h.elim) (Nat.le_refl _)
theorem Keep.blkOf {w w1 : World} (hg : Grow w w1) {k t : Nat} {cs : Array Value} (h : Blk w k t cs) : Blk w1 k t cs := h.below hg h.lt
theorem Keep.toGrowObj {S : Nat → Prop} {w : World} {o : Obj} {g : Nat} {x : Obj} (_ : Keep S w (w.alloc o)) (h : w.heap[g]? = some x) : (w.alloc o).heap[g]? = some x := (Below.heap_alloc w o g (Array.getElem?_eq_some_iff.1 h).1).trans h
theorem ownLen {w : World} {B e s n n' : Nat} {v : Value} {xs : List Value} (h : n = n') (ho : w.ownsRow B e s v n xs) : w.ownsRow B e s v n' xs := h ▸ ho
theorem results_cell1 {P : Program} {fn : Func} {p : Tmp} {t : TypeId} (h : fn.results = #[.cell p t]) (tmps : Array Value) (w : World) (g : Nat) (x : Value)
    (hp : tmps.getD p undef = .pointer (some ⟨g, 0, none⟩)) (hx : (loadVar t ⟨g, 0, none⟩).run P w = .ok x w) :
    (results fn tmps).run P w = .ok x w := by
  have hp' : tmps[p]?.getD undef = .pointer (some ⟨g, 0, none⟩) := by simpa using hp
  simp [results, h, hp', asAddr, hx]
/-- what the rounds of Take keep -/
structure TakeI (w : World) (F0 : Nat → Prop) (L : List Int) (m : Int) (D lp : Nat) (o : Obj) (k : Nat) (F : Nat → Prop) (W : World) : Prop where
  loop : W.heap[lp]? = some o
  defers : W.heap[D]? = some (.deferred (some []))
  out : ∃ v, Blk W (w.heap.size + 1) 29 #[v] ∧ W.ownsRow (w.heap.size + 2) 3 1 v k ((L.take k).map i64v) ∧ ∀ b, v.ownBlock = some b → ¬ F b
  most : Blk W w.heap.size 3 #[.int .i64 m]
  keep : Keep F0 w W
  from_ : ∀ j, F j → F0 j ∨ w.heap.size ≤ j
  off : ∀ j, j = lp ∨ j = D ∨ j = w.heap.size ∨ j = w.heap.size + 1 → ¬ F j
  le : (k : Int) ≤ max m 0
theorem TakeI.moved {w W W' : World} {F0 F F' : Nat → Prop} {L : List Int} {m : Int} {D lp : Nat} {o : Obj} {k : Nat} (h : TakeI w F0 L m D lp o k F W) (hk : Keep F W W') (hf : ∀ j, F' j → F j ∨ W.heap.size ≤ j) : TakeI w F0 L m D lp o k F' W' := by
  obtain ⟨v, h1, h2, h3⟩ := h.out
  have ht : ∀ j, j < W.heap.size → ¬ F j → ¬ F' j := fun j hj hn hf' => by
    rcases hf j hf' with h | h
    · exact hn h
    · omega
  refine ⟨hk.obj h.loop (h.off _ (Or.inl rfl)), hk.obj h.defers (h.off _ (Or.inr (Or.inl rfl))), ⟨v, hk.blk h1 (h.off _ (by simp)), hk.own h2 h3, fun b hb => ht b (h2.lt b hb).2 (h3 b hb)⟩, hk.blk h.most (h.off _ (by simp)), h.keep.trans hk fun j hj => h.from_ j hj, fun j hj => ?_, fun j hj => ?_, h.le⟩
  · rcases hf j hj with h1 | h1
    · exact h.from_ j h1
    · exact Or.inr (Nat.le_trans h.keep.size h1)
  · refine ht j ?_ (h.off j hj)
    rcases hj with rfl | rfl | rfl | rfl
    · exact (Array.getElem?_eq_some_iff.1 h.loop).1
    · exact (Array.getElem?_eq_some_iff.1 h.defers).1
    · exact h.most.lt
    · exact h1.lt
/-- as many as are asked for have been taken -/
def TakeN (d : Nat) (w : World) (v : Value) (F0 : Nat → Prop) (L : List Int) (m : Int) (D lp : Nat) (o : Obj) (W : World) : Prop := ∃ F2, TakeI w F0 L m D lp o m.toNat F2 W ∧ Cur d W v (L.drop m.toNat) F2
/-- what Take tells, and what it leaves -/
def TakeTo (d : Nat) (w : World) (v : Value) (L : List Int) (m : Int) (F : Nat → Prop) (e : Ending) (w' : World) : Prop :=
  ∃ x, e = .returned x ∧ w'.ownsRow (w.heap.size + 2) 3 1 x (L.take m.toNat).length ((L.take m.toNat).map i64v) ∧ CurTo d w v (L.drop m.toNat) F w'
set_option maxRecDepth 100000 in
set_option maxHeartbeats 4000000 in
theorem cTake_any (d : Nat) (w : World) (p : Option Addr) (L : List Int) (F : Nat → Prop) (m : Int) (h : Cur d w (.pointer p) L F) (hL : L.length ≤ 17592186044416) :
    Calls Try.prog 21 #[.pointer p, .int .i64 m] w (TakeTo d w (.pointer p) L m F) := by
  have intTy : AppTy Try.prog 29 3 (.int .i64 0) 1 8 := AppTy.mk' Try.underlying29 (by kernel_rfl) rfl (by decide)
  refine (callsIn_wide (n := 4)).1 ?_
  refine callsIn_of_wp_marks Try.func21 rfl trivial ?_ rfl
  simp only [Try.ntmps21, List.size_toArray, List.length_cons, List.length_nil, Nat.reduceSub, Nat.reduceAdd, Array.replicate_succ, Array.replicate_zero, List.push_toArray, List.append_toArray, List.nil_append, List.cons_append]
  have H := Lib.hid h
  have HL := Lib.hid hL
  clear h hL
  gi_wp2
  refine wpIn_wide.2 (wp_scope_straight ((wpIn_wide (n := 4)).1 ?_))
  gi_wp2
  obtain ⟨W0, hW0⟩ : ∃ W0, (w.alloc (.cells #[.int .i64 m] 3)).alloc (.cells #[.slice none 0 0] 29) = W0 := ⟨_, rfl⟩
  have hG0 : Grow w W0 := by rw [← hW0]; exact (Grow.alloc _ _).trans (Grow.alloc _ _)
  have hbM : Blk W0 w.heap.size 3 #[.int .i64 m] := by rw [← hW0]; exact (Blk.new _ _ _).alloc _
  have hbO : Blk W0 (w.heap.size + 1) 29 #[.slice none 0 0] := by
    rw [← hW0]
    have := Blk.new (w.alloc (.cells #[.int .i64 m] 3)) 29 #[.slice none 0 0]
    simpa using this
  rw [hW0]
  clear hW0
  refine wpIn_label ?_
  gi_wp2_with (refine ⟨trivial, ?_⟩; gi_at_call 35; refine (callsIn_wide.2 (cAll_any p _)).mono ?_; rintro e w' ⟨rfl, rfl⟩)
  obtain ⟨W5, hW5⟩ : ∃ W5, W0.alloc (.cells #[.pointer p] 58) = W5 := ⟨_, rfl⟩
  have hx5 : Boxed W5 W0.heap.size 58 (.pointer p) := by rw [← hW5]; exact Boxed.new _ _ _
  have hG5 : Grow w W5 := by rw [← hW5]; exact hG0.trans (Grow.alloc _ _)
  have hbM5 : Blk W5 w.heap.size 3 #[.int .i64 m] := by rw [← hW5]; exact hbM.alloc _
  have hbO5 : Blk W5 (w.heap.size + 1) 29 #[.slice none 0 0] := by rw [← hW5]; exact hbO.alloc _
  have hzO := hbO.lt
  rw [hW5]
  have hz5 : W0.heap.size < W5.heap.size := hx5.lt
  clear hW5 hbM hbO hG0
  refine rangeJ rfl (by omega) (gf := 44) (lb := #[.pointer (some ⟨W0.heap.size, 0, none⟩)]) rfl trivial (enters_of Try.func44 (by kernel_rfl) rfl) ?_
  intro fn rec W6 _ hrec hg6 hz6 hD6 hlp6
  have hk6 : Keep (fun _ => False) W5 W6 := (Keep.grown hg6).mono fun j h => by cases h
  have hG6 := hk6.toGrow'
  have hGw := hG5.trans hG6
  have hlt0 := H.out.lt
  have hJ0 : TakeI w F L m W5.heap.size (W5.heap.size + 1) (.loop (rec .ready none)) 0 F W6 := ⟨hlp6, hD6, ⟨_, Keep.blkOf hG6 hbO5, World.ownsRow_nil _ _ _ _, fun b hb => by cases hb⟩, Keep.blkOf hG6 hbM5, Keep.grow hGw, fun j hj => Or.inl hj, fun j hj hF => by have := hlt0 j hF; omega, by omega⟩
  refine (cAll1_any d 3 (by omega) (W5.heap.size + 1) W0.heap.size p L (fun k F2 W => k ≤ L.length ∧ TakeI w F L m W5.heap.size (W5.heap.size + 1) (.loop (rec .ready none)) k F2 W)
    (TakeN d w (.pointer p) F L m W5.heap.size (W5.heap.size + 1) (.loop (rec .done (some (.exit 0))))) ?yes (fun k F2 F3 W W' ⟨hk, h1⟩ h2 h3 => ⟨hk, h1.moved h2 h3⟩) W6 F (H.out.grow hGw) (Keep.blkOf hG6 (show Blk W5 W0.heap.size 58 #[.pointer p] from hx5)) (fun hF => by have := hlt0 _ hF; omega) ⟨Nat.zero_le _, hJ0⟩).mono ?_
  case yes =>
    clear hJ0 hk6 hg6 hD6 hlp6 hx5 hG6 hGw hbM5 hbO5 hlt0
    intro k x F2 W hx ⟨hkL, hJ⟩ hc hbx hnx
    have hklt : k < L.length := (List.getElem?_eq_some_iff.1 hx).1
    have hll := (Array.getElem?_eq_some_iff.1 hJ.loop).1
    obtain ⟨v, hO, hown, hvF⟩ := hJ.out
    refine yieldJ trivial hrec hJ.loop rfl ?_
    gi_wp2
    refine roundBody.mk hJ.loop fun w2 hg2 hl2 => ?_
    have hk2 : Keep (fun j => j = W5.heap.size + 1) W w2 := (Keep.grown hg2).mono fun j hj => by injection hj with hj; exact Or.inl hj.symm
    have hO2 := hO.grown hg2 (by simp; omega)
    have hM2 := hJ.most.grown hg2 (by simp; omega)
    have hown2 := hk2.own hown fun b hb e => by
      obtain ⟨cur, q⟩ := own_obj hown hb
      rw [e, hJ.loop] at q
      cases q
    have hD2 : w2.heap[W5.heap.size]? = _ := hk2.obj hJ.defers (by omega)
    have hl2' := hl2
    obtain ⟨A9, c9, rfl, -, -, -⟩ := own_reads hown
    have hcO := hO2.cell 0
    have hfO := hO2.frozen 0
    have hcM := hM2.cell 0
    have hJ2 : w.heap.size + 2 ≤ W.heap.size := by have := hJ.most.lt; have := hO.lt; have := hll; omega
    have Hle := Lib.hid hJ.le
    have hkb : k + 1 ≤ 17592186044416 := by have := HL.out; omega
    have Hown2 := Lib.hid hown2
    have Hhx := Lib.hid hx
    have Hown := Lib.hid hown
    have Hc := Lib.hid hc
    have HJ := Lib.hid hJ
    have HvF := Lib.hid hvF
    have Hbx := Lib.hid hbx
    have HO2 := Lib.hid hO2
    have HM2 := Lib.hid hM2
    have HO := Lib.hid hO
    clear hown2 hx hown hc hJ hvF hbx hO2 hM2 hO
    by_cases hm : m ≤ (k : Int)
    · have hkm : k = m.toNat := by have := Hle.out; omega
      have Hkm := Lib.hid hkm
      clear hkm
      gi_wp2
      refine roundEnd.exit hl2 fun w' hg' hl' => Or.inr ⟨rfl, F2, ?_, ?_⟩
      · have hk' : Keep (fun j => j = W5.heap.size + 1) W w' := hk2.trans' ((Keep.grown hg').mono fun j hj => by injection hj with hj; exact Or.inl hj.symm)
        have hown' := hk'.own Hown.out fun b hb e => by
          obtain ⟨cur, q⟩ := own_obj Hown.out hb
          rw [e, HJ.out.loop] at q
          cases q
        rw [← Hkm.out]
        exact ⟨hl', hk'.obj HJ.out.defers (by omega), ⟨_, hk'.blk HO.out (by omega), hown', HvF.out⟩, hk'.blk HJ.out.most (by omega), HJ.out.keep.trans hk' fun j hj => Or.inr (by omega), HJ.out.from_, HJ.out.off, HJ.out.le⟩
      · have hk' : Keep (fun j => j = W5.heap.size + 1) W w' := hk2.trans' ((Keep.grown hg').mono fun j hj => by injection hj with hj; exact Or.inl hj.symm)
        rw [← Hkm.out]
        exact Hc.out.kept hk' fun j hj e => HJ.out.off j (Or.inl e) hj
    · have hm1 : decide (m ≤ (k : Int)) = false := decide_eq_false hm
      have hG3 : Grow w2 (w2.alloc (.cells #[.int .i64 x] 3)) := Grow.alloc _ _
      have Hown3 := Lib.hid (own_below Hown2.out hG3)
      have Hrd := Lib.hid (one_reads (Blk.new w2 3 #[.int .i64 x]))
      have HO3 := Lib.hid (HO2.out.alloc (.cells #[.int .i64 x] 3))
      have hz3 : w.heap.size + 2 ≤ (w2.alloc (.cells #[.int .i64 x] 3)).heap.size := by have := hg2.size; have := hG3.size; have := hJ2; omega
      have HneO := Lib.hid (show some (w.heap.size + 1) ≠ (Value.slice A9 k c9).ownBlock from fun e => by
        obtain ⟨cur, q⟩ := own_obj Hown.out e.symm
        rw [show W.heap[w.heap.size + 1]? = _ from HO.out] at q
        cases q)
      have Hz3 := Lib.hid hz3
      clear hG3 hz3
      gi_wp2_with (gi_at_builtin; go_loud (refine wpListIn_append_reads _ rfl (.tmp 13) (.tmp 15) rfl intTy rfl Hown3.out rfl Hrd.out (by simp [Value.oneCell']) (by simp only [maxLen]; omega) (by omega) Hz3.out ?_); intro v' wq hown4 hgrow4 hat4; obtain ⟨A10, c10, rfl, -, -, -⟩ := own_reads hown4; have hO4 := HO3.out.grown hgrow4 HneO.out; have hcO4 := hO4.cell 0; have hfO4 := hO4.frozen 0; have Hown4 := Lib.hid hown4; have Hgrow4 := Lib.hid hgrow4; have Hat4 := Lib.hid hat4; clear hown4 hgrow4 hat4)
      obtain ⟨S, hSdef⟩ : ∃ S : Nat → Prop, S = fun j => j = W5.heap.size + 1 ∨ j = w.heap.size + 1 ∨ (Value.slice A9 k c9).ownBlock = some j := ⟨_, rfl⟩
      have hSof : ∀ j, (j = W5.heap.size + 1 ∨ j = w.heap.size + 1 ∨ (Value.slice A9 k c9).ownBlock = some j) → S j := fun j h => by rw [hSdef]; exact h
      have hSis : ∀ j, S j → (j = W5.heap.size + 1 ∨ j = w.heap.size + 1 ∨ (Value.slice A9 k c9).ownBlock = some j) := fun j h => by rw [hSdef] at h; exact h
      have hSge : ∀ j, S j → w.heap.size + 1 ≤ j := fun j hj => by
        rcases hSis j hj with h | h | h
        · omega
        · omega
        · have := (Hown.out.lt j h).1
          omega
      have hSF : ∀ j, F2 j → ¬ S j := fun j hF hj => by
        rcases hSis j hj with h | h | h
        · exact HJ.out.off j (Or.inl h) hF
        · exact HJ.out.off j (by simp [h]) hF
        · exact HvF.out j h hF
      have hk2z : Keep S w2 (wq.setCell ⟨w.heap.size + 1, 0, none⟩ (.slice A10 (k + 1) c10)) := ((Keep.alloc (S := S) w2 (.cells #[.int .i64 x] 3)).trans' ((Keep.grown Hgrow4.out).mono fun j hj => Or.inl (hSof j (Or.inr (Or.inr hj))))).trans' ((Keep.setCell wq ⟨w.heap.size + 1, 0, none⟩ _).mono fun j hj => Or.inl (hSof j (Or.inr (Or.inl hj))))
      have hlz : (wq.setCell ⟨w.heap.size + 1, 0, none⟩ (.slice A10 (k + 1) c10)).heap[W5.heap.size + 1]? = some (.loop (rec .busy none)) := by
        have h1 : wq.heap[W5.heap.size + 1]? = some (.loop (rec .busy none)) := (Keep.grown Hgrow4.out).obj ((Keep.alloc (S := S) w2 (.cells #[.int .i64 x] 3)).toGrowObj hl2) fun e => by
          obtain ⟨cur, q⟩ := own_obj Hown.out e
          rw [HJ.out.loop] at q
          cases q
        exact (Keep.setCell wq ⟨w.heap.size + 1, 0, none⟩ _).obj h1 (by show ¬ (W5.heap.size + 1 = w.heap.size + 1); omega)
      refine roundEnd.on hlz fun w' hg' hl' => Or.inl ⟨rfl, ⟨by omega, ?_⟩, ?_, ?_⟩
      all_goals have hkf : Keep S W w' := ((hk2.mono fun j hj => Or.inl (hSof j (Or.inl hj))).trans' hk2z).trans' ((Keep.grown hg').mono fun j hj => Or.inl (hSof j (Or.inl (by injection hj with hj; exact hj.symm))))
      · have hO5 : Blk w' (w.heap.size + 1) 29 #[.slice A10 (k + 1) c10] := (hO4.set 0 (.slice A10 (k + 1) c10)).grown hg' (by simp; omega)
        have hkz : Keep (fun j => j = w.heap.size + 1 ∨ j = W5.heap.size + 1) wq w' := ((Keep.setCell wq ⟨w.heap.size + 1, 0, none⟩ _).mono fun j hj => Or.inl (Or.inl hj)).trans' ((Keep.grown hg').mono fun j hj => Or.inl (Or.inr (by injection hj with hj; exact hj.symm)))
        have hown5 := hkz.own Hown4.out fun b hb e => by
          obtain ⟨cur, q⟩ := own_obj Hown4.out hb
          rcases e with e | e
          · rw [e, show wq.heap[w.heap.size + 1]? = _ from hO4] at q
            cases q
          · rw [Below.heap_setCell wq ⟨w.heap.size + 1, 0, none⟩ _ _ (by show W5.heap.size + 1 ≠ w.heap.size + 1; omega), e.symm, q] at hlz
            cases hlz
        refine ⟨hl', hkf.obj HJ.out.defers fun hs => ?_, ⟨_, hO5, ?_, fun b hb => ?_⟩, hkf.blk HJ.out.most fun hs => ?_, HJ.out.keep.trans hkf fun j hj => Or.inr (Nat.le_of_succ_le (hSge j hj)), HJ.out.from_, HJ.out.off, ?_⟩
        · rcases hSis _ hs with h | h | h
          · omega
          · omega
          · obtain ⟨cur, q⟩ := own_obj Hown.out h
            rw [HJ.out.defers] at q
            cases q
        · have e1 : (L.take (k + 1)).map i64v = (L.take k).map i64v ++ [.int .i64 x] := by rw [List.take_add_one, Hhx.out]; simp [i64v]
          rw [e1]
          exact hown5
        · rcases Hat4.out with h | h
          · rw [h] at hb
            exact HvF.out b hb
          · rw [h] at hb
            injection hb with hb
            intro hF
            have h1 := Hc.out.lt b hF
            have h2 := hk2.size
            have h3 := (Grow.alloc w2 (.cells #[.int .i64 x] 3)).size
            omega
        · have := hSge _ hs
          omega
        · omega
      · exact Hc.out.kept hkf fun j hj => hSF j hj
      · refine hkf.blk (show Blk W W0.heap.size 58 #[.pointer p] from Hbx.out) fun hs => ?_
        rcases hSis _ hs with h | h | h
        · omega
        · omega
        · obtain ⟨cur, q⟩ := own_obj Hown.out h
          rw [show W.heap[W0.heap.size]? = _ from Hbx.out] at q
          cases q
  clear hJ0 hk6 hg6 hD6 hlp6 hx5 hG6 hGw hbM5 hbO5 hlt0
  rintro e W7 ⟨⟨vv, rfl⟩, hend⟩
  have hend' : ∃ (k : Nat) (F2 : Nat → Prop) (st : LoopState) (pe : Option Code), (st = .ready ∧ pe = none ∨ st = .done ∧ pe = some (.exit 0)) ∧ TakeI w F L m W5.heap.size (W5.heap.size + 1) (.loop (rec st pe)) k F2 W7 ∧ Cur d W7 (.pointer p) (L.drop m.toNat) F2 ∧ L.take k = L.take m.toNat ∧ k = (L.take m.toNat).length := by
    rcases hend with ⟨F2, ⟨-, h1⟩, h2⟩ | ⟨F2, h1, h2⟩
    · have h3 := h1.le
      refine ⟨L.length, F2, .ready, none, Or.inl ⟨rfl, rfl⟩, h1, ?_, ?_, ?_⟩
      · rw [List.drop_eq_nil_of_le (by omega)]
        exact h2
      · rw [List.take_of_length_le (Nat.le_refl _), List.take_of_length_le (by omega)]
      · rw [List.take_of_length_le (by omega)]
    · obtain ⟨v, -, h4, -⟩ := h1.out
      have h5 := h4.1
      refine ⟨m.toNat, F2, .done, _, Or.inr ⟨rfl, rfl⟩, h1, h2, rfl, ?_⟩
      simp only [List.length_map, List.length_take, Nat.mul_one] at h5
      simp only [List.length_take]
      omega
  clear hend
  obtain ⟨k, F2, st, pe, hst, hI, hc, hk1, hk2⟩ := hend'
  obtain ⟨v, hO, hown, hvF⟩ := hI.out
  rw [hk1] at hown
  have HI := Lib.hid hI
  have Hc := Lib.hid hc
  have Hk2 := Lib.hid hk2
  obtain ⟨A9, c9, rfl, -, -, -⟩ := own_reads hown
  have Hown := Lib.hid hown
  have hD8 := hI.defers
  have HvF := Lib.hid hvF
  clear hI hc hk1 hk2 hown hvF
  rcases hst with ⟨rfl, rfl⟩ | ⟨rfl, rfl⟩
  all_goals
    refine ⟨vv, _, _, rfl, by simp, HI.out.loop, fun W8 hg8 => ?_⟩
    have hk8 : Keep (fun j => j = W5.heap.size + 1) W7 W8 := (Keep.grown hg8).mono fun j hj => by injection hj with hj; exact Or.inl hj.symm
    have hO8 := hO.grown hg8 (by simp; omega)
    have hcO := hO8.cell 0
    have hfO := hO8.frozen 0
    gi_wp2
    try rw [Exit.noGoto_ret]
    obtain ⟨W9, hW9⟩ : ∃ W9, W8.setCell ⟨w.heap.size + 1, 0, none⟩ (.slice A9 k c9) = W9 := ⟨_, rfl⟩
    have hO9 : Blk W9 (w.heap.size + 1) 29 #[.slice A9 k c9] := by rw [← hW9]; exact hO8.set 0 _
    have hk9 : Keep (fun j => j = w.heap.size + 1) W8 W9 := by rw [← hW9]; exact Keep.setCell W8 ⟨w.heap.size + 1, 0, none⟩ _
    have hD9 := hk9.obj (hk8.obj hD8 (by omega)) (by omega)
    rw [hW9]
    refine leaves_marks (by simp) (B := w.heap.size + 2) [W5.heap.size] _ ⟨by simp, fun m hm => by simp at hm; omega, fun m hm => by simp at hm; rw [hm]; exact hD9⟩ fun w1 ho => ?_
    have hkM := Keep.only ho
    have hO1 := hkM.blk hO9 (by simp; omega)
    have hc1 := hO1.cell 0
    have hkA : Keep (fun j => j = W5.heap.size + 1 ∨ j = w.heap.size + 1 ∨ j = W5.heap.size) W7 w1 := ((hk8.mono fun j hj => Or.inl (Or.inl hj)).trans' (hk9.mono fun j hj => Or.inl (Or.inr (Or.inl hj)))).trans' (hkM.mono fun j hj => Or.inl (Or.inr (Or.inr (by simpa using hj))))
    refine ⟨_, results_cell1 rfl _ _ (w.heap.size + 1) (.slice A9 k c9) rfl (by go_simp), _, rfl, ownLen Hk2.out (hkA.own Hown.out fun b hb e => ?_), F2, Hc.out.kept hkA fun j hj e => ?_, HI.out.keep.trans hkA fun j hj => Or.inr ?_, HI.out.from_⟩
    · obtain ⟨cur, q⟩ := own_obj Hown.out hb
      rcases e with e | e | e
      · rw [e, HI.out.loop] at q; cases q
      · rw [e, show W7.heap[w.heap.size + 1]? = _ from hO] at q; cases q
      · rw [e, hD8] at q; cases q
    · exact HI.out.off j (by rcases e with e | e | e <;> simp [e]) hj
    · rcases hj with e | e | e <;> omega
end Go.Proofs.Ytamdejidkgnaeaa
