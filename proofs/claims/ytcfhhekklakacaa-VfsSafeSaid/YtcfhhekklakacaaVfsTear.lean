/-
  The walk of a file's tear. (printed by gen/vtear.py)
-/
import Derived.Test.YtcfhhekklakacaaVfsMod
namespace Go.Proofs.Ytcfhhekklakacaa
open Go.RowKit Go.Maps
set_option linter.unusedVariables false
/-- a row's copy is laid into its file -/
def tearW (w0 : World) (id m : Nat) (s : Int) (d : Bool) (xs : List Value) : List Value → World → Prop
  | [], W => Grow w0 W
  | [v], W => W.ownsRow w0.heap.size 5 1 v m xs ∧ Grow w0 W
  | [_, _], W => ∃ v, Blk W id 58 #[v, .int .i64 s, .bool d] ∧ W.ownsRow w0.heap.size 5 1 v m xs ∧ Keep (fun j => j = id) w0 W
  | _, _ => False
theorem tearW.grow {w0 : World} {id m : Nat} {s : Int} {d : Bool} {xs : List Value} : ∀ (vals : List Value) (x y : World), Grow x y → tearW w0 id m s d xs vals x → tearW w0 id m s d xs vals y
  | [], _, _, g, h => Grow.trans h g
  | [_], _, _, g, ⟨h1, h2⟩ => ⟨own_below h1 g, h2.trans g⟩
  | [_, _], _, _, g, ⟨v, h0, h1, h2⟩ => ⟨v, h0.below g h0.lt, own_below h1 g, h2.trans' (Keep.grow g)⟩
  | _ :: _ :: _ :: _, _, _, _, h => h
theorem own_set {w : World} {base e g n cap : Nat} {xs : List Value} (h : w.ownsRow base e 1 (.slice (some ⟨g, 0, none⟩) n cap) n xs) (j : Nat) (u : Value) : (w.setCell ⟨g, j, none⟩ u).ownsRow base e 1 (.slice (some ⟨g, 0, none⟩) n cap) n (xs.set j u) := by
  obtain ⟨h1, h2⟩ := h
  refine ⟨by rw [List.length_set]; exact h1, ?_⟩
  rcases h2 with ⟨h3, -⟩ | ⟨g', cap', cur, e', hb, hg, hnc, hcm, hs, ht⟩
  · cases h3
  · injection e' with e1 e2 e3
    injection e1 with e1
    injection e1 with e1
    subst e1 e3
    refine Or.inr ⟨g, cap, cur.setIfInBounds j u, rfl, hb, Blk.set (t := e) (show Blk w g e cur from hg) j u, hnc, hcm, by simpa using hs, ?_⟩
    rw [← ht, Array.toList_setIfInBounds, List.take_set]
theorem lastQ.store1x {P : Program} {o : Oper} {Q : Exit → Act → World → Prop} {a : Act} {w w' : World} (ty : TypeId) (s1 : Nat) (y : Operand) (ho : o.op = .store ty (.tmp s1) y) {u1 u2 : Value} (h1 : a.tmps[s1]? = some u1) (h2 : a.eval y = u2)
    (hr : (Instr.storeAt ty u1 u2).run P w = .ok () w') (h : Q .normal (a.put o.dst undef) w') : lastQ P o Q .normal a w := by
  refine Or.inl ⟨rfl, ?_⟩
  unfold Oper.wp execOp
  simp only [ho, Sem.run_bind, evalT h1, h2, hr, Result.andThen_ok, Sem.run_pure]
  exact h
theorem lastQ.store1g {P : Program} {o : Oper} {Q : Exit → Act → World → Prop} {a : Act} {w w' : World} (ty : TypeId) (s1 : Nat) (y : Operand) (ho : o.op = .store ty (.tmp s1) y) {u1 u2 : Value} (h1 : a.tmps[s1]? = some u1) (h2 : a.eval y = u2)
    (hr : (Instr.storeAt ty u1 u2).run P w = .ok () w') (h : ∀ g : Nat → Value, g = (fun k => (a.put o.dst undef).tmps.getD k undef) → Q .normal (a.put o.dst undef) w') : lastQ P o Q .normal a w := lastQ.store1x ty s1 y ho h1 h2 hr (h _ rfl)
set_option maxRecDepth 100000 in
set_option maxHeartbeats 4000000 in
theorem vtear_any (w : World) (id base n c s many : Nat) (torn : Int) (A : Option Addr) (d : Bool) (L : List UInt8) (hf : Blk w id 58 #[.slice A n c, .int .i64 (s : Int), .bool d]) (hrow : w.ownsRow base 5 1 (.slice A n c) n (L.map b8)) (hL : L.length = n) (hsm : s + many ≤ n) (hn : n ≤ 1000000) (ht : -9223372036854775808 ≤ torn ∧ torn ≤ 9223372036854775807) :
    Calls Try.prog 39 #[pg id, .int .i64 (many : Int), .int .i64 torn] w fun e w' => e = .returned (.tuple #[]) ∧ ∃ (v : Value) (L' : List UInt8), Blk w' id 58 #[v, .int .i64 (s : Int), .bool d] ∧ w'.ownsRow w.heap.size 5 1 v L'.length (L'.map b8) ∧ L'.length = s + many ∧ L'.take s = L.take s ∧ (torn = 1 → 1 ≤ many → L'[s]? = some 0) ∧ Keep (fun j => j = id) w w' := by
  obtain ⟨m, hm⟩ : ∃ m, m = s + many := ⟨_, rfl⟩
  obtain ⟨A', c', e', hnc, hcm, hR⟩ := own_reads hrow
  injection e' with e1 e2 e3
  subst e1 e3
  have hR : BytesAt w w.heap.size A n L := hR
  have hmc : m ≤ c := by omega
  have Hc := Lib.hid (show ∀ W, Grow w W → W.cell? ⟨id, 0, none⟩ = some (.slice A n c) from fun W h => (hf.below h hf.lt).cell 0)
  have Hs := Lib.hid (show ∀ W, Grow w W → W.cell? ⟨id, 1, none⟩ = some (.int .i64 (s : Int)) from fun W h => (hf.below h hf.lt).cell 1)
  have Hf := Lib.hid (show ∀ W, Grow w W → Blk W id 58 #[.slice A n c, .int .i64 (s : Int), .bool d] from fun W h => hf.below h hf.lt)
  have Hclone := Lib.hid (show ∀ W, Grow w W → Calls Try.prog 41 #[.slice A m c] W fun e w' => ∃ r, e = .returned r ∧ w'.ownsRow w.heap.size 5 1 r m ((L.take m).map b8) ∧ Grow W w' from fun W hg => by
    have hl : (L.take m).length = m := by rw [List.length_take]; omega
    refine (vClone_any W w.heap.size A m c (L.take m) ((hR.head m (by omega)).below hg) hg.size (by omega)).mono ?_
    rintro e w' ⟨r, rfl, ho, hg'⟩
    rw [hl] at ho
    exact ⟨r, rfl, own_base ho hg.size, hg'⟩)
  have hsum : (s : Int) + (many : Int) = (m : Int) := by omega
  have hwr : IntKind.i64.wrap (m : Int) = (m : Int) := IntWalk.i64_in _ (by omega)
  have Hid2 := Lib.hid hf.lt
  have HL := Lib.hid hL
  have Hm := Lib.hid hm
  clear hf hrow hR hL hm
  go_enter Try.func39, Try.ntmps39
  go_upto_region 0 with (fail)
  go_cut [] from 7 to 21 (fun wx => ∃ (W : World) (v : Value), W = wx ∧ Blk W id 58 #[v, .int .i64 (s : Int), .bool d] ∧ W.ownsRow w.heap.size 5 1 v m ((L.take m).map b8) ∧ Keep (fun j => j = id) w W)
  case first Jx Kx hJx hMx =>
    refine wp_region_stages (by kernel_rfl) ?_
    refine anyOrder_start [12, 15] (Keep (fun j => j = id)) (tearW w id m (s : Int) d ((L.take m).map b8)) (FactsOn [.is (.pointer (some ⟨id, 0, none⟩)), .is (.pointer (some ⟨id, 0, none⟩)), .is (.pointer (some ⟨id, 0, none⟩)), .is (.pointer (some ⟨id, 0, none⟩)), .is (.slice A n c), .is (.pointer (some ⟨id, 0, none⟩)), .is (.pointer (some ⟨id, 0, none⟩)), .is (.pointer (some ⟨id, 1, none⟩)), .is (.int .i64 (s : Int)), .is (.int .i64 (many : Int)), .is (.int .i64 (m : Int)), .is (.slice A m c), .any, .is (.pointer (some ⟨id, 0, none⟩)), .is (.pointer (some ⟨id, 0, none⟩)), .any]) (fun i => if i = 4 then 0 else if i = 8 then 0 else 99) keep_trans keep_grow (tearW.grow) (factsOn_mono _) (by kernel_rfl) (by kernel_rfl) (Grow.refl _) ?_ ?_
    · refine ⟨?_, ?_, ?_, ?_, ?_, ?_, ?_, ?_, ?_, ?_, ?_, ?_, ?_, ?_, ?_, ?_, trivial⟩
      · refine stageOf_free rfl (fun _ _ _ _ _ _ => wanted_none rfl) ?_
        intro us vals w3 a' ha hle hW hd hv K hK
        have q0 : a'.tmps[0]? = some (.pointer (some ⟨id, 0, none⟩)) := slot_old ha (by kernel_rfl) (by kernel_rfl)
        refine step_value (v := .pointer (some ⟨id, 0, none⟩)) (w2 := w3) ?_ (hK _ _ (Grow.refl _) rfl)
        go_simp
      · refine stageOf_free rfl (fun _ _ _ _ _ _ => wanted_none rfl) ?_
        intro us vals w3 a' ha hle hW hd hv K hK
        have q0 : a'.tmps[0]? = some (.pointer (some ⟨id, 0, none⟩)) := slot_old ha (by kernel_rfl) (by kernel_rfl)
        refine step_value (v := .pointer (some ⟨id, 0, none⟩)) (w2 := w3) ?_ (hK _ _ (Grow.refl _) rfl)
        go_simp
      · refine stageOf_free rfl (fun _ _ _ _ _ _ => wanted_none rfl) ?_
        intro us vals w3 a' ha hle hW hd hv K hK
        obtain ⟨d1, _⟩ := hd
        have q8 : a'.tmps[8]? = some (us 1) := slot_get ha 1 (by kernel_rfl) (by kernel_rfl)
        rw [show us 1 = .pointer (some ⟨id, 0, none⟩) from d1] at q8
        refine step_value (v := .pointer (some ⟨id, 0, none⟩)) (w2 := w3) ?_ (hK _ _ (Grow.refl _) rfl)
        go_simp
      · refine stageOf_free rfl (fun _ _ _ _ _ _ => wanted_none rfl) ?_
        intro us vals w3 a' ha hle hW hd hv K hK
        obtain ⟨d2, _⟩ := hd
        have q9 : a'.tmps[9]? = some (us 2) := slot_get ha 2 (by kernel_rfl) (by kernel_rfl)
        rw [show us 2 = .pointer (some ⟨id, 0, none⟩) from d2] at q9
        refine step_value (v := .pointer (some ⟨id, 0, none⟩)) (w2 := w3) ?_ (hK _ _ (Grow.refl _) rfl)
        go_simp
      · refine stageOf_free rfl (fun _ _ _ _ _ _ => wanted_none rfl) ?_
        intro us vals w3 a' ha hle hW hd hv K hK
        obtain ⟨d3, _⟩ := hd
        obtain rfl := List.eq_nil_of_length_eq_zero (Nat.le_zero.1 (show vals.length ≤ 0 from hv))
        have q10 : a'.tmps[10]? = some (us 3) := slot_get ha 3 (by kernel_rfl) (by kernel_rfl)
        rw [show us 3 = .pointer (some ⟨id, 0, none⟩) from d3] at q10
        have hc := Hc.out w3 hW
        refine step_value (v := .slice A n c) (w2 := w3) ?_ (hK _ _ (Grow.refl _) rfl)
        go_simp
      · refine stageOf_free rfl (fun _ _ _ _ _ _ => wanted_none rfl) ?_
        intro us vals w3 a' ha hle hW hd hv K hK
        have q0 : a'.tmps[0]? = some (.pointer (some ⟨id, 0, none⟩)) := slot_old ha (by kernel_rfl) (by kernel_rfl)
        refine step_value (v := .pointer (some ⟨id, 0, none⟩)) (w2 := w3) ?_ (hK _ _ (Grow.refl _) rfl)
        go_simp
      · refine stageOf_free rfl (fun _ _ _ _ _ _ => wanted_none rfl) ?_
        intro us vals w3 a' ha hle hW hd hv K hK
        obtain ⟨d5, _⟩ := hd
        have q12 : a'.tmps[12]? = some (us 5) := slot_get ha 5 (by kernel_rfl) (by kernel_rfl)
        rw [show us 5 = .pointer (some ⟨id, 0, none⟩) from d5] at q12
        refine step_value (v := .pointer (some ⟨id, 0, none⟩)) (w2 := w3) ?_ (hK _ _ (Grow.refl _) rfl)
        go_simp
      · refine stageOf_free rfl (fun _ _ _ _ _ _ => wanted_none rfl) ?_
        intro us vals w3 a' ha hle hW hd hv K hK
        obtain ⟨d6, _⟩ := hd
        have q13 : a'.tmps[13]? = some (us 6) := slot_get ha 6 (by kernel_rfl) (by kernel_rfl)
        rw [show us 6 = .pointer (some ⟨id, 0, none⟩) from d6] at q13
        refine step_value (v := .pointer (some ⟨id, 1, none⟩)) (w2 := w3) ?_ (hK _ _ (Grow.refl _) rfl)
        go_simp
      · refine stageOf_free rfl (fun _ _ _ _ _ _ => wanted_none rfl) ?_
        intro us vals w3 a' ha hle hW hd hv K hK
        obtain ⟨d7, _⟩ := hd
        obtain rfl := List.eq_nil_of_length_eq_zero (Nat.le_zero.1 (show vals.length ≤ 0 from hv))
        have q14 : a'.tmps[14]? = some (us 7) := slot_get ha 7 (by kernel_rfl) (by kernel_rfl)
        rw [show us 7 = .pointer (some ⟨id, 1, none⟩) from d7] at q14
        have hc := Hs.out w3 hW
        refine step_value (v := .int .i64 (s : Int)) (w2 := w3) ?_ (hK _ _ (Grow.refl _) rfl)
        go_simp
      · refine stageOf_free rfl (fun _ _ _ _ _ _ => wanted_none rfl) ?_
        intro us vals w3 a' ha hle hW hd hv K hK
        have q1 : a'.tmps[1]? = some (.int .i64 (many : Int)) := slot_old ha (by kernel_rfl) (by kernel_rfl)
        refine step_value (v := .int .i64 (many : Int)) (w2 := w3) ?_ (hK _ _ (Grow.refl _) rfl)
        go_simp
      · refine stageOf_free rfl (fun _ _ _ _ _ _ => wanted_none rfl) ?_
        intro us vals w3 a' ha hle hW hd hv K hK
        obtain ⟨d8, d9, _⟩ := hd
        have q15 : a'.tmps[15]? = some (us 8) := slot_get ha 8 (by kernel_rfl) (by kernel_rfl)
        rw [show us 8 = .int .i64 (s : Int) from d8] at q15
        have q16 : a'.tmps[16]? = some (us 9) := slot_get ha 9 (by kernel_rfl) (by kernel_rfl)
        rw [show us 9 = .int .i64 (many : Int) from d9] at q16
        refine step_value (v := .int .i64 (m : Int)) (w2 := w3) ?_ (hK _ _ (Grow.refl _) rfl)
        go_simp
      · refine stageOf_free rfl (fun _ _ _ _ _ _ => wanted_none rfl) ?_
        intro us vals w3 a' ha hle hW hd hv K hK
        obtain ⟨d4, d10, _⟩ := hd
        have q11 : a'.tmps[11]? = some (us 4) := slot_get ha 4 (by kernel_rfl) (by kernel_rfl)
        rw [show us 4 = .slice A n c from d4] at q11
        have q17 : a'.tmps[17]? = some (us 10) := slot_get ha 10 (by kernel_rfl) (by kernel_rfl)
        rw [show us 10 = .int .i64 (m : Int) from d10] at q17
        exact step_cut_head vbytesTy rfl q11 q17 m rfl hmc (hK _ _ (Grow.refl _) rfl)
      · refine stageOf_mem (t := 0) rfl ?_
        intro us vals w3 a' ha hle hW hd hv
        obtain ⟨d11, _⟩ := hd
        obtain rfl := List.eq_nil_of_length_eq_zero (Nat.le_zero.1 (show vals.length ≤ 0 from Nat.le_of_eq hv))
        refine ⟨wanted_none rfl, fun K hK => ?_⟩
        have q18 : a'.tmps[18]? = some (us 11) := slot_get ha 11 (by kernel_rfl) (by kernel_rfl)
        rw [show us 11 = .slice A m c from d11] at q18
        refine step_call (f := 41) (args := #[.slice A m c]) (by go_simp) ?_
        refine (Hclone.out w3 hW).mono ?_
        rintro e w4 ⟨r, rfl, ho, hg⟩
        exact ⟨_, rfl, hK _ _ (Keep.grow hg) ⟨ho, Grow.trans hW hg⟩⟩
      · refine stageOf_free rfl (fun _ _ _ _ _ _ => wanted_none rfl) ?_
        intro us vals w3 a' ha hle hW hd hv K hK
        obtain ⟨d0, _, _, _, _, _, _, _, _, _, _, _, _, _, _⟩ := hd
        have q7 : a'.tmps[7]? = some (us 0) := slot_get ha 0 (by kernel_rfl) (by kernel_rfl)
        rw [show us 0 = .pointer (some ⟨id, 0, none⟩) from d0] at q7
        refine step_value (v := .pointer (some ⟨id, 0, none⟩)) (w2 := w3) ?_ (hK _ _ (Grow.refl _) rfl)
        go_simp
      · refine stageOf_free rfl (fun _ _ _ _ _ _ => wanted_none rfl) ?_
        intro us vals w3 a' ha hle hW hd hv K hK
        obtain ⟨d13, _, _, _, _, _, _, _, _, _, _, _, _, _, _⟩ := hd
        have q20 : a'.tmps[20]? = some (us 13) := slot_get ha 13 (by kernel_rfl) (by kernel_rfl)
        rw [show us 13 = .pointer (some ⟨id, 0, none⟩) from d13] at q20
        refine step_value (v := .pointer (some ⟨id, 0, none⟩)) (w2 := w3) ?_ (hK _ _ (Grow.refl _) rfl)
        go_simp
      · refine stageOf_mem (t := 1) rfl ?_
        intro us vals w3 a' ha hle hW hd hv
        obtain ⟨d14, d12, _, _, _, _, _, _, _, _, _, _, _, _, _, _, _⟩ := hd
        obtain ⟨x0, rfl⟩ := List.length_eq_one_iff.1 hv
        obtain rfl : us 12 = x0 := by have h0 : some x0 = some (us 12) := d12; injection h0 with h0; exact h0.symm
        refine ⟨wanted_none rfl, fun K hK => ?_⟩
        have q21 : a'.tmps[21]? = some (us 14) := slot_get ha 14 (by kernel_rfl) (by kernel_rfl)
        rw [show us 14 = .pointer (some ⟨id, 0, none⟩) from d14] at q21
        have q19 : a'.tmps[19]? = some (us 12) := slot_get ha 12 (by kernel_rfl) (by kernel_rfl)
        obtain ⟨ho, hg⟩ := hW
        have hf := Hf.out w3 hg
        have hc := hf.cell 0
        have hz := hf.frozen 0
        obtain ⟨A2, c2, e2, -, -, -⟩ := own_reads ho
        have hks : Keep (fun j => j = id) w3 (w3.setCell ⟨id, 0, none⟩ (us 12)) := Keep.setCell w3 ⟨id, 0, none⟩ _
        refine wp_store1 22 21 19 rfl q21 q19 (w' := w3.setCell ⟨id, 0, none⟩ (us 12)) ?_ (hK _ _ hks ⟨us 12, hf.set 0 _, hks.own ho (fun j hj e => ?_), (Keep.grow hg).trans' hks⟩)
        · rw [e2]
          go_simp
        · have e : j = id := e
          subst e
          exact absurd (own_type_blk ho hj hf) (by decide)
    · intro us vals w5 hle hvl hW ht hf
      obtain ⟨x, y, rfl⟩ : ∃ x y, vals = [x, y] := by
        match vals, hvl with
        | [x, y], _ => exact ⟨x, y, rfl⟩
      obtain ⟨v, h1, h2, h3⟩ := hW
      exact hMx _ _ (Met.intro (hJx _ _ ⟨us 0, us 1, us 2, us 3, us 4, us 5, us 6, us 7, us 8, us 9, us 10, us 11, us 12, us 13, us 14, ⟨_, v, rfl, h1, h2, h3⟩, by kernel_rfl⟩))
  case rest =>
  obtain ⟨w5, v, rfl, hf5, ho5, hk5⟩ := hcut
  obtain ⟨A5, c5, rfl, hmc5, hcm5, -⟩ := own_reads ho5
  have H0 := Lib.hid (show Blk w5 id 58 #[.slice A5 m c5, .int .i64 (s : Int), .bool d] ∧ w5.ownsRow w.heap.size 5 1 (.slice A5 m c5) m ((L.take m).map b8) ∧ Keep (fun j => j = id) w w5 from ⟨hf5, ho5, hk5⟩)
  clear Hclone Hc Hs Hf hf5 ho5 hk5
  go_wp2_with fail
  go_loopw [6, 23] (fun v6 v23 wr => ∃ (i : Nat) (L' : List UInt8), i ≤ many ∧ v23 = .int .i64 (i : Int) ∧ Hid (Blk wr id 58 #[.slice A5 m c5, .int .i64 (s : Int), .bool d]) ∧ Hid (wr.ownsRow w.heap.size 5 1 (.slice A5 m c5) m (L'.map b8)) ∧ Hid (L'.length = m ∧ L'.take s = L.take s ∧ (torn = 1 → 1 ≤ i → L'[s]? = some 0)) ∧ Hid (Keep (fun j => j = id) w wr)) (fun v6 v23 _ => many - (intOf v23).toNat)
  case atStart => exact ⟨0, L.take m, Nat.zero_le _, rfl, Lib.hid H0.out.1, Lib.hid H0.out.2.1, Lib.hid ⟨by rw [List.length_take, HL.out]; omega, by rw [List.take_take, Nat.min_eq_left (by have := Hm.out; omega)], fun _ h => by omega⟩, Lib.hid H0.out.2.2⟩
  case round =>
    clear H0
    obtain ⟨i, L', hi, rfl, hf, ho, hl, hk⟩ := hrel
    by_cases him : i < many
    · have hmod : IntKind.i64.wrap ((i : Int).tmod 63) = ((i % 63 : Nat) : Int) := by
        rw [IntWalk.i64_in _ (by have h1 := Int.tmod_nonneg (63 : Int) (show (0 : Int) ≤ (i : Int) by omega); have h2 := Int.tmod_lt_of_pos (i : Int) (show (0 : Int) < 63 by omega); omega)]
        rw [Int.tmod_eq_emod_of_nonneg (by omega)]
        omega
      obtain ⟨q, hq⟩ : ∃ q : Nat, q = i % 63 := ⟨_, rfl⟩
      have hq63 : q < 63 := by omega
      rw [← hq] at hmod
      clear hq
      go_upto_block 1 with (fail)
      go_cut [6] from 25 to 42 (fun v6 wx => ∃ (W : World) (L2 : List UInt8), W = wx ∧ Hid (Blk W id 58 #[.slice A5 m c5, .int .i64 (s : Int), .bool d]) ∧ Hid (W.ownsRow w.heap.size 5 1 (.slice A5 m c5) m (L2.map b8)) ∧ Hid (L2.length = m ∧ L2.take s = L.take s ∧ (torn = 1 → L2[s]? = some 0)) ∧ Hid (Keep (fun j => j = id) w W))
      case first Jx Kx hJx hMx =>
        go_wp2_with fail
        rotate_left
        · rename_i hbit
          have hl2 : Hid (L'.length = m ∧ L'.take s = L.take s ∧ (torn = 1 → L'[s]? = some 0)) := Lib.hid ⟨hl.out.1, hl.out.2.1, fun e => hl.out.2.2 e (by
            refine Nat.pos_of_ne_zero fun e0 => ?_
            rw [e, e0] at hbit
            revert hbit
            decide +kernel)⟩
          refine Met.intro (hJx _ _ ?_)
          repeat apply Exists.intro
          refine And.intro ?relr ?relf
          case relf => exact rfl
          case relr => exact ⟨_, L', rfl, hf, ho, hl2, hk⟩
        have Hq2 := Lib.hid hq63
        clear hmod hq63
        obtain ⟨g5, cap5, e5, hg5, -, -, -⟩ := own_slice ho.out (by have := Hm.out; omega)
        injection e5 with e5 e6 e7
        subst e5 e7
        have Hf := Lib.hid (show ∀ W, Grow wr W → Blk W id 58 #[.slice (some ⟨g5, 0, none⟩) m c5, .int .i64 (s : Int), .bool d] from fun W h => hf.out.below h hf.out.lt)
        have hsi : (s : Int) + (i : Int) = ((s + i : Nat) : Int) := by omega
        obtain ⟨p, hp⟩ : ∃ p : Nat, p = s + i := ⟨_, rfl⟩
        rw [← hp] at hsi
        have hpm : p < m := by have := Hm.out; omega
        have hwrp : IntKind.i64.wrap (p : Int) = (p : Int) := IntWalk.i64_in _ (by have := Hm.out; omega)
        have Hp := Lib.hid hp
        clear hp
        refine wp_region_stages (by kernel_rfl) ?_
        refine anyOrder_pop rfl (by kernel_rfl) ?_
        refine anyOrder_start [] (Keep (fun _ => False)) ((fun _ W => Grow wr W)) (FactsOn [.is (.pointer (some ⟨id, 0, none⟩)), .is (.pointer (some ⟨id, 0, none⟩)), .is (.pointer (some ⟨id, 0, none⟩)), .is (.slice (some ⟨g5, 0, none⟩) m c5), .is (.pointer (some ⟨id, 0, none⟩)), .is (.pointer (some ⟨id, 0, none⟩)), .is (.pointer (some ⟨id, 1, none⟩)), .is (.int .i64 (s : Int)), .is (.int .i64 (i : Int)), .is (.int .i64 (p : Int)), .is (.pointer (some ⟨g5, p, none⟩))]) (fun i => 99) keep_trans keep_grow (fun _ _ _ hg h => Grow.trans h hg) (factsOn_mono _) (by kernel_rfl) (by kernel_rfl) (Grow.refl _) ?_ ?_
        · refine ⟨?_, ?_, ?_, ?_, ?_, ?_, ?_, ?_, ?_, ?_, ?_, trivial⟩
          · refine stageOf_free rfl (fun _ _ _ _ _ _ => wanted_none rfl) ?_
            intro us vals w3 a' ha hle hW hd hv K hK
            have q0 : a'.tmps[0]? = some (.pointer (some ⟨id, 0, none⟩)) := slot_old ha (by kernel_rfl) (by kernel_rfl)
            refine step_value (v := .pointer (some ⟨id, 0, none⟩)) (w2 := w3) ?_ (hK _ _ (Grow.refl _) rfl)
            go_simp
          · refine stageOf_free rfl (fun _ _ _ _ _ _ => wanted_none rfl) ?_
            intro us vals w3 a' ha hle hW hd hv K hK
            obtain ⟨d0, _⟩ := hd
            have q32 : a'.tmps[32]? = some (us 0) := slot_get ha 0 (by kernel_rfl) (by kernel_rfl)
            rw [show us 0 = .pointer (some ⟨id, 0, none⟩) from d0] at q32
            refine step_value (v := .pointer (some ⟨id, 0, none⟩)) (w2 := w3) ?_ (hK _ _ (Grow.refl _) rfl)
            go_simp
          · refine stageOf_free rfl (fun _ _ _ _ _ _ => wanted_none rfl) ?_
            intro us vals w3 a' ha hle hW hd hv K hK
            obtain ⟨d1, _⟩ := hd
            have q33 : a'.tmps[33]? = some (us 1) := slot_get ha 1 (by kernel_rfl) (by kernel_rfl)
            rw [show us 1 = .pointer (some ⟨id, 0, none⟩) from d1] at q33
            refine step_value (v := .pointer (some ⟨id, 0, none⟩)) (w2 := w3) ?_ (hK _ _ (Grow.refl _) rfl)
            go_simp
          · refine stageOf_free rfl (fun _ _ _ _ _ _ => wanted_none rfl) ?_
            intro us vals w3 a' ha hle hW hd hv K hK
            obtain ⟨d2, _⟩ := hd
            have q34 : a'.tmps[34]? = some (us 2) := slot_get ha 2 (by kernel_rfl) (by kernel_rfl)
            rw [show us 2 = .pointer (some ⟨id, 0, none⟩) from d2] at q34
            have hc := (Hf.out w3 hW).cell 0
            refine step_value (v := .slice (some ⟨g5, 0, none⟩) m c5) (w2 := w3) ?_ (hK _ _ (Grow.refl _) rfl)
            go_simp
          · refine stageOf_free rfl (fun _ _ _ _ _ _ => wanted_none rfl) ?_
            intro us vals w3 a' ha hle hW hd hv K hK
            have q0 : a'.tmps[0]? = some (.pointer (some ⟨id, 0, none⟩)) := slot_old ha (by kernel_rfl) (by kernel_rfl)
            refine step_value (v := .pointer (some ⟨id, 0, none⟩)) (w2 := w3) ?_ (hK _ _ (Grow.refl _) rfl)
            go_simp
          · refine stageOf_free rfl (fun _ _ _ _ _ _ => wanted_none rfl) ?_
            intro us vals w3 a' ha hle hW hd hv K hK
            obtain ⟨d4, _⟩ := hd
            have q36 : a'.tmps[36]? = some (us 4) := slot_get ha 4 (by kernel_rfl) (by kernel_rfl)
            rw [show us 4 = .pointer (some ⟨id, 0, none⟩) from d4] at q36
            refine step_value (v := .pointer (some ⟨id, 0, none⟩)) (w2 := w3) ?_ (hK _ _ (Grow.refl _) rfl)
            go_simp
          · refine stageOf_free rfl (fun _ _ _ _ _ _ => wanted_none rfl) ?_
            intro us vals w3 a' ha hle hW hd hv K hK
            obtain ⟨d5, _⟩ := hd
            have q37 : a'.tmps[37]? = some (us 5) := slot_get ha 5 (by kernel_rfl) (by kernel_rfl)
            rw [show us 5 = .pointer (some ⟨id, 0, none⟩) from d5] at q37
            refine step_value (v := .pointer (some ⟨id, 1, none⟩)) (w2 := w3) ?_ (hK _ _ (Grow.refl _) rfl)
            go_simp
          · refine stageOf_free rfl (fun _ _ _ _ _ _ => wanted_none rfl) ?_
            intro us vals w3 a' ha hle hW hd hv K hK
            obtain ⟨d6, _⟩ := hd
            have q38 : a'.tmps[38]? = some (us 6) := slot_get ha 6 (by kernel_rfl) (by kernel_rfl)
            rw [show us 6 = .pointer (some ⟨id, 1, none⟩) from d6] at q38
            have hc := (Hf.out w3 hW).cell 1
            refine step_value (v := .int .i64 (s : Int)) (w2 := w3) ?_ (hK _ _ (Grow.refl _) rfl)
            go_simp
          · refine stageOf_free rfl (fun _ _ _ _ _ _ => wanted_none rfl) ?_
            intro us vals w3 a' ha hle hW hd hv K hK
            have q6 : a'.tmps[6]? = some (.int .i64 (i : Int)) := slot_old ha (by kernel_rfl) (by kernel_rfl)
            refine step_value (v := .int .i64 (i : Int)) (w2 := w3) ?_ (hK _ _ (Grow.refl _) rfl)
            go_simp
          · refine stageOf_free rfl (fun _ _ _ _ _ _ => wanted_none rfl) ?_
            intro us vals w3 a' ha hle hW hd hv K hK
            obtain ⟨d7, d8, _⟩ := hd
            have q39 : a'.tmps[39]? = some (us 7) := slot_get ha 7 (by kernel_rfl) (by kernel_rfl)
            rw [show us 7 = .int .i64 (s : Int) from d7] at q39
            have q40 : a'.tmps[40]? = some (us 8) := slot_get ha 8 (by kernel_rfl) (by kernel_rfl)
            rw [show us 8 = .int .i64 (i : Int) from d8] at q40
            refine step_value (v := .int .i64 (p : Int)) (w2 := w3) ?_ (hK _ _ (Grow.refl _) rfl)
            go_simp
          · refine stageOf_free rfl (fun _ _ _ _ _ _ => wanted_none rfl) ?_
            intro us vals w3 a' ha hle hW hd hv K hK
            obtain ⟨d3, d9, _, _, _, _, _, _, _, _, _, _, _⟩ := hd
            have q35 : a'.tmps[35]? = some (us 3) := slot_get ha 3 (by kernel_rfl) (by kernel_rfl)
            rw [show us 3 = .slice (some ⟨g5, 0, none⟩) m c5 from d3] at q35
            have q41 : a'.tmps[41]? = some (us 9) := slot_get ha 9 (by kernel_rfl) (by kernel_rfl)
            rw [show us 9 = .int .i64 (p : Int) from d9] at q41
            refine step_value (v := .pointer (some ⟨g5, p, none⟩)) (w2 := w3) ?_ (hK _ _ (Grow.refl _) rfl)
            go_simp
        · intro us vals w6 hle hvl hW ht hf6
          have ho6 := own_below ho.out hW
          have hz := own_free ho6 p
          have hc : w6.cell? ⟨g5, p, none⟩ = some (.int .u8 ((L'[p]'(by rw [hl.out.1]; exact hpm)).toNat : Int)) := own_cell ho6 (j := p) (by
            rw [List.getElem?_map, List.getElem?_eq_getElem (by rw [hl.out.1]; exact hpm)]
            rfl)
          have h10 : us 10 = .pointer (some ⟨g5, p, none⟩) := hf6 10 (by decide) rfl
          have hne : ¬ (g5 = id) := fun e => by
            subst e
            exact absurd (own_type_blk ho.out rfl hf.out) (by decide)
          have hks : Keep (fun j => j = g5) w6 (w6.setCell ⟨g5, p, none⟩ (.int .u8 0)) := Keep.setCell w6 ⟨g5, p, none⟩ _
          have hrun : (Instr.storeAt 5 (us 10) (.int .u8 0)).run Try.prog w6 = .ok () (w6.setCell ⟨g5, p, none⟩ (.int .u8 0)) := by
            rw [h10]
            go_simp
          have hown6 : (w6.setCell ⟨g5, p, none⟩ (.int .u8 0)).ownsRow w.heap.size 5 1 (.slice (some ⟨g5, 0, none⟩) m c5) m ((L'.set p 0).map b8) := by
            have h := own_set ho6 p (.int .u8 0)
            rw [show (L'.map b8).set p (.int .u8 0) = (L'.set p 0).map b8 from by rw [List.map_set]; rfl] at h
            exact h
          have hl6 : (L'.set p 0).length = m ∧ (L'.set p 0).take s = L.take s ∧ (torn = 1 → (L'.set p 0)[s]? = some 0) := by
            refine ⟨by rw [List.length_set]; exact hl.out.1, ?_, fun e => ?_⟩
            · rw [List.take_set, List.set_eq_of_length_le (by have := Hp.out; rw [List.length_take]; omega)]
              exact hl.out.2.1
            · by_cases ei : i = 0
              · have ep : p = s := by have := Hp.out; omega
                rw [ep, List.getElem?_set_self (by rw [hl.out.1]; have := Hp.out; omega)]
              · rw [List.getElem?_set_ne (by have := Hp.out; omega)]
                exact hl.out.2.2 e (by omega)
          refine lastQ.store1g 5 42 _ rfl (u1 := us 10) (by kernel_rfl) rfl hrun ?_
          intro gg hgg
          (try simp only [Exit.inBlock, Exit.then])
          exact hMx _ _ (Met.intro (hJx _ _ ⟨gg 6, gg 25, gg 26, gg 27, gg 28, gg 29, gg 30, gg 31, us 0, us 1, us 2, us 3, us 4, us 5, us 6, us 7, us 8, us 9, us 10, ⟨_, _, rfl, Lib.hid (hks.blk (hf.out.below hW hf.out.lt) (fun e => hne e.symm)), Lib.hid hown6, Lib.hid hl6, Lib.hid ((hk.out.trans' (Keep.grow hW)).trans hks fun j hj => Or.inr (by rw [hj]; exact hg5))⟩, by rw [hgg]; kernel_rfl⟩))
      case rest =>
      obtain ⟨w6, L2, rfl, hf6, ho6, hl6, hk6⟩ := hcut
      go_wp2_with fail
      go_roundw
      case rel => exact ⟨i + 1, L2, by omega, by push_cast; rfl, hf6, ho6, Lib.hid ⟨hl6.out.1, hl6.out.2.1, fun e _ => hl6.out.2.2 e⟩, hk6⟩
      case measure => simp only [intOf]; omega
    · have him2 : i = many := by omega
      subst him2
      go_wp2_with fail
      refine Go.Great.bodyPost_end0 rfl rfl ?_
      exact ⟨rfl, _, L', hf.out, by rw [hl.out.1]; exact ho.out, by rw [hl.out.1]; exact Hm.out, hl.out.2.1, hl.out.2.2, hk.out⟩
end Go.Proofs.Ytcfhhekklakacaa
