/-
  The walk of slices.Collect over a look's all.
-/
import Derived.Deep.LoopGhost
import Derived.RegionIn
import Derived.BigRegionIn
import Derived.Test.YtamdejidkgnaeaaMarks
import Derived.Test.YtamdejidkgnaeaaNearAll
import Derived.Test.YtamdejidkgnaeaaCurTake
namespace Go.Proofs.Ytamdejidkgnaeaa
open Go.RowKit Go.Shelf NearM
set_option linter.unusedVariables false
attribute [local go_sem] Oper.semAt_some
/-- what the rounds of AppendSeq keep -/
structure SeqI (w : World) (P : List Pl) (D lp : Nat) (o : Obj) (k : Nat) (W : World) : Prop where
  loop : W.heap[lp]? = some o
  defers : W.heap[D]? = some (.deferred (some []))
  box : ∃ v, Blk W w.heap.size 30 #[v] ∧ W.ownsRow (w.heap.size + 1) 33 2 v k (plCs (P.take k))
  grow : Grow w W
theorem SeqI.more {w W W' : World} {P : List Pl} {D lp k : Nat} {o : Obj} (h : SeqI w P D lp o k W) (hg : Grow W W') : SeqI w P D lp o k W' := by
  have ho : ∀ {j : Nat} {o : Obj}, W.heap[j]? = some o → W'.heap[j]? = some o := fun hj => (hg.block _ (Array.getElem?_eq_some_iff.1 hj).1).trans hj
  obtain ⟨v, h1, h2⟩ := h.box
  exact ⟨ho h.loop, ho h.defers, ⟨v, h1.below hg h1.lt, own_below h2 hg⟩, h.grow.trans hg⟩
theorem LookAt.on {w W : World} {B Bx : Nat} {A : Option Addr} {n c : Nat} {l : List Pl} {Ao : Option Addr} {no co : Nat} {os : List (List Pl)} (h : LookAt w B Bx A n c l Ao no co os) (hg : Grow w W) : LookAt W B Bx A n c l Ao no co os := h.grow hg
set_option maxRecDepth 100000 in
set_option maxHeartbeats 4000000 in
theorem nSeq_any (w : World) (Bx B : Nat) (A : Option Addr) (n c : Nat) (l : List Pl) (Ao : Option Addr) (no co : Nat) (os : List (List Pl)) (hn : n ≤ 1000000000) (hno : no ≤ 1000000) (hl : ∀ x ∈ l, x.2 ≤ 100000000) (hL : LookAt w B Bx A n c l Ao no co os) :
    Calls Try.prog 31 #[.slice none 0 0, .func (.func 32) #[] #[.pointer (some ⟨Bx, 0, none⟩)]] w fun e w' => ∃ v, e = .returned v ∧ w'.ownsRow w.heap.size 33 2 v (l.filter (mayB os)).length (plCs (l.filter (mayB os))) ∧ Grow w w' := by
  have placeTy : AppTy Try.prog 30 33 (.agg #[.int .i64 0, .int .i64 0]) 2 16 := AppTy.mk' Try.underlying30 (by kernel_rfl) rfl (by decide)
  obtain ⟨P, hP⟩ : ∃ P, P = l.filter (mayB os) := ⟨_, rfl⟩
  have HPl := Lib.hid (show P.length ≤ n by rw [hP, ← hL.pls.1]; exact List.length_filter_le _ _)
  have HL := Lib.hid hL
  have Hl := Lib.hid hl
  have HP := Lib.hid hP
  rw [← hP]
  clear hL hl hP
  refine (callsIn_wide (n := 4)).1 ?_
  refine callsIn_of_wp_marks Try.func31 rfl trivial ?_ rfl
  simp only [Try.ntmps31, List.size_toArray, List.length_cons, List.length_nil, Nat.reduceSub, Nat.reduceAdd, Array.replicate_succ, Array.replicate_zero, List.push_toArray, List.append_toArray, List.nil_append, List.cons_append]
  gi_wp2
  obtain ⟨W5, hW5⟩ : ∃ W5, w.alloc (.cells #[.slice none 0 0] 30) = W5 := ⟨_, rfl⟩
  have hG5 : Grow w W5 := by rw [← hW5]; exact Grow.alloc _ _
  have hbO5 : Blk W5 w.heap.size 30 #[.slice none 0 0] := by rw [← hW5]; exact Blk.new _ _ _
  have hz5 : w.heap.size < W5.heap.size := hbO5.lt
  rw [hW5]
  clear hW5
  refine rangeJ rfl (by omega) (gf := 32) (lb := #[.pointer (some ⟨Bx, 0, none⟩)]) rfl trivial (enters_of Try.func32 (by kernel_rfl) rfl) ?_
  intro fn rec W6 _ hrec hg6 hz6 hD6 hlp6
  have hk6 : Keep (fun _ => False) W5 W6 := (Keep.grown hg6).mono fun j h => by cases h
  have hG6 := hk6.toGrow'
  have hGw := hG5.trans hG6
  have hJ0 : SeqI w P W5.heap.size (W5.heap.size + 1) (.loop (rec .ready none)) 0 W6 := ⟨hlp6, hD6, ⟨_, Keep.blkOf hG6 hbO5, World.ownsRow_nil _ _ _ _⟩, hGw⟩
  refine (nall1_any 3 (by omega) (W5.heap.size + 1) Bx B A n c l Ao no co os hn hno Hl.out (fun k W => k ≤ P.length ∧ SeqI w P W5.heap.size (W5.heap.size + 1) (.loop (rec .ready none)) k W) (fun k W W' h hg => ⟨h.1, h.2.more hg⟩) ?yes W6 (HL.out.on hGw) ⟨Nat.zero_le _, hJ0⟩).mono ?_
  case yes =>
    clear hJ0 hk6 hg6 hD6 hlp6 hG6 hGw hbO5
    intro k x W hx ⟨hkP, hJ⟩ hla
    rw [← HP.out] at hx
    have hkl : k < P.length := (List.getElem?_eq_some_iff.1 hx).1
    obtain ⟨v, hO, hown⟩ := hJ.box
    refine yieldJ trivial hrec hJ.loop rfl ?_
    gi_wp2
    obtain ⟨Wa, hWa⟩ : ∃ Wa, W.alloc (.cells #[.int .i64 (x.1 : Int), .int .i64 (x.2 : Int)] 33) = Wa := ⟨_, rfl⟩
    have hga : Grow W Wa := by rw [← hWa]; exact Grow.alloc _ _
    have hba : Blk Wa W.heap.size 33 #[.int .i64 (x.1 : Int), .int .i64 (x.2 : Int)] := by rw [← hWa]; exact Blk.new _ _ _
    have hla2 : Wa.heap[W5.heap.size + 1]? = some (.loop (rec .ready none)) := (hga.block _ (Array.getElem?_eq_some_iff.1 hJ.loop).1).trans hJ.loop
    rw [hWa]
    clear hWa
    have hll := (Array.getElem?_eq_some_iff.1 hJ.loop).1
    refine roundBody.mk hla2 fun w2 hg2 hl2 => ?_
    have hk2 : Keep (fun j => j = W5.heap.size + 1) W w2 := (Keep.grow hga).trans' ((Keep.grown hg2).mono fun j hj => by injection hj with hj; exact Or.inl hj.symm)
    have hO2 := hk2.blk hO (by omega)
    have hba2 : Blk w2 W.heap.size 33 #[.int .i64 (x.1 : Int), .int .i64 (x.2 : Int)] := (Keep.grown hg2).blk hba (by simp; omega)
    have hown2 := hk2.own hown fun b hb e => by
      obtain ⟨cur, q⟩ := own_obj hown hb
      have e : b = W5.heap.size + 1 := e
      rw [e, hJ.loop] at q
      cases q
    have hD2 := hk2.obj hJ.defers (show ¬ (W5.heap.size = W5.heap.size + 1) by omega)
    obtain ⟨A9, c9, rfl, -, -, -⟩ := own_reads hown
    have hcO := hO2.cell 0
    have hfO := hO2.frozen 0
    have hcb0 := hba2.cell 0
    have hcb1 := hba2.cell 1
    have hw1 : w.heap.size + 1 ≤ W.heap.size := hO.lt
    have hw2 : W.heap.size ≤ w2.heap.size := hk2.size
    have hkb : k + 1 ≤ 1000000000 := by have := HPl.out; omega
    have hG3 : Grow w2 (w2.alloc (.cells #[.int .i64 (x.1 : Int), .int .i64 (x.2 : Int)] 33)) := Grow.alloc _ _
    have Hown3 := Lib.hid (own_below hown2 hG3)
    have Hrd := Lib.hid (readsB2 (s := 2) (cs := [.int .i64 (x.1 : Int), .int .i64 (x.2 : Int)]) rfl (Blk.new w2 33 #[.int .i64 (x.1 : Int), .int .i64 (x.2 : Int)]))
    have HO3 := Lib.hid (hO2.alloc (.cells #[.int .i64 (x.1 : Int), .int .i64 (x.2 : Int)] 33))
    have Hz3 := Lib.hid (show w.heap.size + 1 ≤ (w2.alloc (.cells #[.int .i64 (x.1 : Int), .int .i64 (x.2 : Int)] 33)).heap.size from Nat.le_trans (Nat.le_trans hw1 hw2) hG3.size)
    have HneO := Lib.hid (show some w.heap.size ≠ (Value.slice A9 k c9).ownBlock from fun e => by
      have := (hown.lt _ e.symm).1
      omega)
    have Hown := Lib.hid hown
    have HJ := Lib.hid hJ
    have Hla := Lib.hid hla
    have Hx := Lib.hid hx
    have HO := Lib.hid hO
    have HD2 := Lib.hid hD2
    clear hown hJ hla hx hO hown2 hO2 hba2 hba hla2 hga hG3 hD2
    gi_wp2_with (gi_at_builtin; go_loud (refine wpListIn_append_reads _ rfl (.tmp 8) (.tmp 10) rfl placeTy rfl Hown3.out rfl Hrd.out (by simp [Value.oneCell']) (by simp only [maxLen]; omega) (by omega) Hz3.out ?_); intro v' wq hown4 hgrow4 hat4; obtain ⟨A10, c10, rfl, -, -, -⟩ := own_reads hown4; have hO4 := HO3.out.grown hgrow4 HneO.out; have hcO4 := hO4.cell 0; have hfO4 := hO4.frozen 0; have Hown4 := Lib.hid hown4; have Hgrow4 := Lib.hid hgrow4; have Hat4 := Lib.hid hat4; clear hown4 hgrow4 hat4)
    obtain ⟨S, hSdef⟩ : ∃ S : Nat → Prop, S = fun j => j = W5.heap.size + 1 ∨ j = w.heap.size ∨ (Value.slice A9 k c9).ownBlock = some j := ⟨_, rfl⟩
    have hSof : ∀ j, (j = W5.heap.size + 1 ∨ j = w.heap.size ∨ (Value.slice A9 k c9).ownBlock = some j) → S j := fun j h => by rw [hSdef]; exact h
    have hSis : ∀ j, S j → (j = W5.heap.size + 1 ∨ j = w.heap.size ∨ (Value.slice A9 k c9).ownBlock = some j) := fun j h => by rw [hSdef] at h; exact h
    have hSge : ∀ j, S j → w.heap.size ≤ j := fun j hj => by
      rcases hSis j hj with h | h | h
      · omega
      · omega
      · have := (Hown.out.lt j h).1
        omega
    have hk2z : Keep S w2 (wq.setCell ⟨w.heap.size, 0, none⟩ (.slice A10 (k + 1) c10)) := ((Keep.alloc (S := S) w2 (.cells #[.int .i64 (x.1 : Int), .int .i64 (x.2 : Int)] 33)).trans' ((Keep.grown Hgrow4.out).mono fun j hj => Or.inl (hSof j (Or.inr (Or.inr hj))))).trans' ((Keep.setCell wq ⟨w.heap.size, 0, none⟩ _).mono fun j hj => Or.inl (hSof j (Or.inr (Or.inl hj))))
    have hlz : (wq.setCell ⟨w.heap.size, 0, none⟩ (.slice A10 (k + 1) c10)).heap[W5.heap.size + 1]? = some (.loop (rec .busy none)) := by
      have h1 : wq.heap[W5.heap.size + 1]? = some (.loop (rec .busy none)) := (Keep.grown Hgrow4.out).obj ((Keep.alloc (S := S) w2 (.cells #[.int .i64 (x.1 : Int), .int .i64 (x.2 : Int)] 33)).toGrowObj hl2) fun e => by
        obtain ⟨cur, q⟩ := own_obj Hown.out e
        rw [HJ.out.loop] at q
        cases q
      exact (Keep.setCell wq ⟨w.heap.size, 0, none⟩ _).obj h1 (by show ¬ (W5.heap.size + 1 = w.heap.size); omega)
    refine roundEnd.on hlz fun w' hg' hl' => ⟨rfl, ⟨by omega, ?_⟩, ?_⟩
    all_goals have hkf : Keep S W w' := ((hk2.mono fun j hj => Or.inl (hSof j (Or.inl hj))).trans' hk2z).trans' ((Keep.grown hg').mono fun j hj => Or.inl (hSof j (Or.inl (by injection hj with hj; exact hj.symm))))
    all_goals have hgf : Grow w w' := ((Keep.grow (S := S) HJ.out.grow).trans' hkf).below hSge (Nat.le_refl _)
    · have hO5 : Blk w' w.heap.size 30 #[.slice A10 (k + 1) c10] := (hO4.set 0 (.slice A10 (k + 1) c10)).grown hg' (by simp; omega)
      have hkz : Keep (fun j => j = w.heap.size ∨ j = W5.heap.size + 1) wq w' := ((Keep.setCell wq ⟨w.heap.size, 0, none⟩ _).mono fun j hj => Or.inl (Or.inl hj)).trans' ((Keep.grown hg').mono fun j hj => Or.inl (Or.inr (by injection hj with hj; exact hj.symm)))
      have hown5 := hkz.own Hown4.out fun b hb e => by
        obtain ⟨cur, q⟩ := own_obj Hown4.out hb
        rcases e with e | e
        · rw [e, show wq.heap[w.heap.size]? = _ from hO4] at q
          cases q
        · rw [Below.heap_setCell wq ⟨w.heap.size, 0, none⟩ _ _ (by show W5.heap.size + 1 ≠ w.heap.size; omega), e.symm, q] at hlz
          cases hlz
      refine ⟨hl', hkf.obj HJ.out.defers fun hs => ?_, ⟨_, hO5, ?_⟩, hgf⟩
      · rcases hSis _ hs with h | h | h
        · omega
        · omega
        · obtain ⟨cur, q⟩ := own_obj Hown.out h
          rw [HJ.out.defers] at q
          cases q
      · rw [List.take_add_one, Hx.out]
        have e1 : plCs (P.take k ++ (some x).toList) = plCs (P.take k) ++ [.int .i64 (x.1 : Int), .int .i64 (x.2 : Int)] := plCs_snoc _ _
        rw [e1]
        exact hown5
    · exact HL.out.on hgf
  clear hJ0 hk6 hg6 hD6 hlp6 hG6 hGw hbO5
  rintro e W7 ⟨⟨vv, rfl⟩, -, hI⟩
  rw [← HP.out] at hI
  obtain ⟨v, hO, hown⟩ := hI.box
  rw [List.take_of_length_le (Nat.le_refl _)] at hown
  obtain ⟨q, hq⟩ : ∃ q, q = P.length := ⟨_, rfl⟩
  rw [← hq] at hown
  have HI := Lib.hid hI
  obtain ⟨A9, c9, rfl, -, -, -⟩ := own_reads hown
  have Hown := Lib.hid hown
  have Hq := Lib.hid hq
  clear hI hown hq
  refine ⟨vv, _, _, rfl, by simp, HI.out.loop, fun W8 hg8 => ?_⟩
  have hk8 : Keep (fun j => j = W5.heap.size + 1) W7 W8 := (Keep.grown hg8).mono fun j hj => by injection hj with hj; exact Or.inl hj.symm
  have hO8 := hk8.blk hO (by omega)
  have hcO := hO8.cell 0
  have hD8 := hk8.obj HI.out.defers (show ¬ (W5.heap.size = W5.heap.size + 1) by omega)
  have HO := Lib.hid hO
  clear hO hO8
  simp only [Exit.inBlock, Exit.then]
  gi_wp2_with fail
  try rw [Exit.noGoto_ret]
  refine leaves_marks (by simp) (B := w.heap.size) [W5.heap.size] _ ⟨by simp, fun m hm => by simp at hm; omega, fun m hm => by simp at hm; rw [hm]; exact hD8⟩ fun w1 ho => ?_
  have hkM : Keep (fun j => j = W5.heap.size) W8 w1 := (Keep.only ho).mono fun j hj => Or.inl (by simpa using hj)
  have hkA : Keep (fun j => j = W5.heap.size + 1 ∨ j = W5.heap.size) W7 w1 := (hk8.mono fun j hj => Or.inl (Or.inl hj)).trans' (hkM.mono fun j hj => Or.inl (Or.inr hj))
  refine ⟨_, results_tmp rfl _ _ _, _, rfl, ?_, ((Keep.grow (S := fun j => j = W5.heap.size + 1 ∨ j = W5.heap.size) HI.out.grow).trans' hkA).below (fun j hj => by rcases hj with h | h <;> omega) (Nat.le_refl _)⟩
  rw [← Hq.out]
  refine own_base (hkA.own Hown.out fun b hb e => ?_) (Nat.le_succ _)
  obtain ⟨cur, q2⟩ := own_obj Hown.out hb
  rcases e with e | e
  · rw [e, HI.out.loop] at q2; cases q2
  · rw [e, HI.out.defers] at q2; cases q2
theorem nCollect_any (w : World) (Bx B : Nat) (A : Option Addr) (n c : Nat) (l : List Pl) (Ao : Option Addr) (no co : Nat) (os : List (List Pl)) (hn : n ≤ 1000000000) (hno : no ≤ 1000000) (hl : ∀ x ∈ l, x.2 ≤ 100000000) (hL : LookAt w B Bx A n c l Ao no co os) :
    Calls Try.prog 17 #[.func (.func 32) #[] #[.pointer (some ⟨Bx, 0, none⟩)]] w fun e w' => ∃ v, e = .returned v ∧ w'.ownsRow w.heap.size 33 2 v (l.filter (mayB os)).length (plCs (l.filter (mayB os))) ∧ Grow w w' := by
  have H := Lib.hid (nSeq_any w Bx B A n c l Ao no co os hn hno hl hL)
  clear hL hl
  go_enter Try.func17, Try.ntmps17
  go_wp2_with fail
  refine H.out.mono ?_
  rintro e w' ⟨v, rfl, ho, hg⟩
  have Ho := Lib.hid ho
  have Hg := Lib.hid hg
  clear ho hg
  go_wp2_with fail
  go_ret
  exact ⟨v, rfl, Ho.out, Hg.out⟩
end Go.Proofs.Ytamdejidkgnaeaa
