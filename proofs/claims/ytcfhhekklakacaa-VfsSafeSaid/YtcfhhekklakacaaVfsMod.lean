/-
  The walks of vfs's modulo, of a file's loose, and of the closure that hands out tears.
-/
import Derived.Test.YtcfhhekklakacaaVfsRead
import Derived.IntWalk
namespace Go.Proofs.Ytcfhhekklakacaa
open Go.RowKit
set_option linter.unusedVariables false
/-- the remainder from 0 on -/
def modN (a : Int) (n : Nat) : Nat := ((a.tmod n + n).tmod n).toNat
theorem mod_two (a : Int) (n : Nat) (hn : 1 ≤ n) : ∃ k : Nat, k = modN a n ∧ k < n ∧ (a.tmod n + n).tmod n = (k : Int) ∧ -(n : Int) < a.tmod n ∧ a.tmod n < n := by
  have h1 : -(n : Int) < a.tmod n := by
    rcases Int.le_total 0 a with h | h
    · have := Int.tmod_nonneg (n : Int) h
      omega
    · have h2 : (-a).tmod n = -(a.tmod n) := Int.neg_tmod _ _
      have h3 := Int.tmod_lt_of_pos (-a) (show (0 : Int) < n by omega)
      omega
  have h2 : a.tmod n < n := Int.tmod_lt_of_pos a (by omega)
  have h3 : 0 ≤ (a.tmod n + n).tmod n := Int.tmod_nonneg _ (by omega)
  have h4 := Int.tmod_lt_of_pos (a.tmod n + n) (show (0 : Int) < n by omega)
  exact ⟨((a.tmod n + n).tmod n).toNat, rfl, by omega, by omega, h1, h2⟩
set_option maxRecDepth 100000 in
set_option maxHeartbeats 1000000 in
theorem vmodulo_any (w : World) (a : Int) (n : Nat) (hn : 1 ≤ n) (hn2 : n ≤ 4611686018427387904) (ha : -9223372036854775808 ≤ a ∧ a ≤ 9223372036854775807) :
    Calls Try.prog 35 #[.int .i64 a, .int .i64 (n : Int)] w fun e w' => ∃ k : Nat, k < n ∧ e = .returned (.int .i64 (k : Int)) ∧ w' = w ∧ k = modN a n := by
  obtain ⟨k, hkm, hk, h1, h2, h3⟩ := mod_two a n hn
  obtain ⟨m, hm⟩ : ∃ m : Int, m = (n : Int) := ⟨_, rfl⟩
  obtain ⟨r, hr⟩ : ∃ r : Int, a.tmod m = r := ⟨_, rfl⟩
  rw [← hm] at h1 h2 h3 ⊢
  rw [hr] at h1 h2 h3
  have hz : (m == 0) = false := by rw [beq_eq_false_iff_ne]; omega
  have hz0 : m ≠ 0 := by omega
  have hm1 : 1 ≤ m ∧ m ≤ 4611686018427387904 := by omega
  have hwr : IntKind.i64.wrap r = r := IntWalk.i64_in _ (by omega)
  have hwr2 : IntKind.i64.wrap (r + m) = r + m := IntWalk.i64_in _ (by omega)
  have hwr3 : IntKind.i64.wrap (k : Int) = (k : Int) := IntWalk.i64_in _ (by omega)
  have Hk := Lib.hid hk
  have Hkm := Lib.hid hkm
  clear hk hm hkm
  go_enter Try.func35, Try.ntmps35
  go_wp2_with fail
  go_ret
  exact ⟨k, Hk.out, rfl, rfl, Hkm.out⟩
set_option maxRecDepth 100000 in
set_option maxHeartbeats 1000000 in
theorem vloose_any (w : World) (id n c s : Nat) (A : Option Addr) (d : Bool) (hf : Blk w id 58 #[.slice A n c, .int .i64 (s : Int), .bool d]) (hs : s ≤ n) (hn : n ≤ 1000000) :
    Calls Try.prog 38 #[pg id] w fun e w' => e = .returned (.int .i64 ((n - s : Nat) : Int)) ∧ Grow w w' := by
  have Hc := Lib.hid (show ∀ W, Grow w W → W.cell? ⟨id, 0, none⟩ = some (.slice A n c) from fun W h => (hf.below h hf.lt).cell 0)
  have Hs := Lib.hid (show ∀ W, Grow w W → W.cell? ⟨id, 1, none⟩ = some (.int .i64 (s : Int)) from fun W h => (hf.below h hf.lt).cell 1)
  have hsub : (n : Int) - (s : Int) = ((n - s : Nat) : Int) := by omega
  have hwr : IntKind.i64.wrap ((n - s : Nat) : Int) = ((n - s : Nat) : Int) := IntWalk.i64_in _ (by omega)
  obtain ⟨r, hr⟩ : ∃ r : Int, r = ((n - s : Nat) : Int) := ⟨_, rfl⟩
  rw [← hr] at hsub hwr ⊢
  clear hf hr
  go_enter Try.func38, Try.ntmps38
  go_upto_region 1 with (fail)
  go_cut [2] from 3 to 12 (fun v2 wx => ∃ W : World, W = wx ∧ v2 = .int .i64 r ∧ Grow w W)
  case first Jx Kx hJx hMx =>
    refine wp_region_stages (by kernel_rfl) ?_
    refine anyOrder_start [] (Keep (fun _ => False)) ((fun _ W => Grow w W)) (FactsOn [.is (.pointer (some ⟨id, 0, none⟩)), .is (.pointer (some ⟨id, 0, none⟩)), .is (.pointer (some ⟨id, 0, none⟩)), .is (.slice A n c), .is (.int .i64 (n : Int)), .is (.pointer (some ⟨id, 0, none⟩)), .is (.pointer (some ⟨id, 0, none⟩)), .is (.pointer (some ⟨id, 1, none⟩)), .is (.int .i64 (s : Int)), .is (.int .i64 r), .is (.int .i64 r)]) (fun i => 99) keep_trans keep_grow (fun _ _ _ hg h => Grow.trans h hg) (factsOn_mono _) (by kernel_rfl) (by kernel_rfl) (Grow.refl _) ?_ ?_
    · refine ⟨?_, ?_, ?_, ?_, ?_, ?_, ?_, ?_, ?_, ?_, ?_, trivial⟩
      · refine stageOf_free rfl (fun _ _ _ _ _ _ => wanted_none rfl) ?_
        intro us vals w3 a' ha hle hW hd hv K hK
        have q0 : a'.tmps[0]? = some (.pointer (some ⟨id, 0, none⟩)) := slot_old ha (by kernel_rfl) (by kernel_rfl)
        refine step_value (v := .pointer (some ⟨id, 0, none⟩)) (w2 := w3) ?_ (hK _ _ (Grow.refl _) rfl)
        go_simp
      · refine stageOf_free rfl (fun _ _ _ _ _ _ => wanted_none rfl) ?_
        intro us vals w3 a' ha hle hW hd hv K hK
        obtain ⟨d0, _⟩ := hd
        have q3 : a'.tmps[3]? = some (us 0) := slot_get ha 0 (by kernel_rfl) (by kernel_rfl)
        rw [show us 0 = .pointer (some ⟨id, 0, none⟩) from d0] at q3
        refine step_value (v := .pointer (some ⟨id, 0, none⟩)) (w2 := w3) ?_ (hK _ _ (Grow.refl _) rfl)
        go_simp
      · refine stageOf_free rfl (fun _ _ _ _ _ _ => wanted_none rfl) ?_
        intro us vals w3 a' ha hle hW hd hv K hK
        obtain ⟨d1, _⟩ := hd
        have q4 : a'.tmps[4]? = some (us 1) := slot_get ha 1 (by kernel_rfl) (by kernel_rfl)
        rw [show us 1 = .pointer (some ⟨id, 0, none⟩) from d1] at q4
        refine step_value (v := .pointer (some ⟨id, 0, none⟩)) (w2 := w3) ?_ (hK _ _ (Grow.refl _) rfl)
        go_simp
      · refine stageOf_free rfl (fun _ _ _ _ _ _ => wanted_none rfl) ?_
        intro us vals w3 a' ha hle hW hd hv K hK
        obtain ⟨d2, _⟩ := hd
        have q5 : a'.tmps[5]? = some (us 2) := slot_get ha 2 (by kernel_rfl) (by kernel_rfl)
        rw [show us 2 = .pointer (some ⟨id, 0, none⟩) from d2] at q5
        have hc := Hc.out w3 hW
        refine step_value (v := .slice A n c) (w2 := w3) ?_ (hK _ _ (Grow.refl _) rfl)
        go_simp
      · refine stageOf_free rfl (fun _ _ _ _ _ _ => wanted_none rfl) ?_
        intro us vals w3 a' ha hle hW hd hv K hK
        obtain ⟨d3, _⟩ := hd
        have q6 : a'.tmps[6]? = some (us 3) := slot_get ha 3 (by kernel_rfl) (by kernel_rfl)
        rw [show us 3 = .slice A n c from d3] at q6
        refine step_value (v := .int .i64 (n : Int)) (w2 := w3) ?_ (hK _ _ (Grow.refl _) rfl)
        go_simp
      · refine stageOf_free rfl (fun _ _ _ _ _ _ => wanted_none rfl) ?_
        intro us vals w3 a' ha hle hW hd hv K hK
        have q0 : a'.tmps[0]? = some (.pointer (some ⟨id, 0, none⟩)) := slot_old ha (by kernel_rfl) (by kernel_rfl)
        refine step_value (v := .pointer (some ⟨id, 0, none⟩)) (w2 := w3) ?_ (hK _ _ (Grow.refl _) rfl)
        go_simp
      · refine stageOf_free rfl (fun _ _ _ _ _ _ => wanted_none rfl) ?_
        intro us vals w3 a' ha hle hW hd hv K hK
        obtain ⟨d5, _⟩ := hd
        have q8 : a'.tmps[8]? = some (us 5) := slot_get ha 5 (by kernel_rfl) (by kernel_rfl)
        rw [show us 5 = .pointer (some ⟨id, 0, none⟩) from d5] at q8
        refine step_value (v := .pointer (some ⟨id, 0, none⟩)) (w2 := w3) ?_ (hK _ _ (Grow.refl _) rfl)
        go_simp
      · refine stageOf_free rfl (fun _ _ _ _ _ _ => wanted_none rfl) ?_
        intro us vals w3 a' ha hle hW hd hv K hK
        obtain ⟨d6, _⟩ := hd
        have q9 : a'.tmps[9]? = some (us 6) := slot_get ha 6 (by kernel_rfl) (by kernel_rfl)
        rw [show us 6 = .pointer (some ⟨id, 0, none⟩) from d6] at q9
        refine step_value (v := .pointer (some ⟨id, 1, none⟩)) (w2 := w3) ?_ (hK _ _ (Grow.refl _) rfl)
        go_simp
      · refine stageOf_free rfl (fun _ _ _ _ _ _ => wanted_none rfl) ?_
        intro us vals w3 a' ha hle hW hd hv K hK
        obtain ⟨d7, _⟩ := hd
        have q10 : a'.tmps[10]? = some (us 7) := slot_get ha 7 (by kernel_rfl) (by kernel_rfl)
        rw [show us 7 = .pointer (some ⟨id, 1, none⟩) from d7] at q10
        have hc := Hs.out w3 hW
        refine step_value (v := .int .i64 (s : Int)) (w2 := w3) ?_ (hK _ _ (Grow.refl _) rfl)
        go_simp
      · refine stageOf_free rfl (fun _ _ _ _ _ _ => wanted_none rfl) ?_
        intro us vals w3 a' ha hle hW hd hv K hK
        obtain ⟨d4, d8, _⟩ := hd
        have q7 : a'.tmps[7]? = some (us 4) := slot_get ha 4 (by kernel_rfl) (by kernel_rfl)
        rw [show us 4 = .int .i64 (n : Int) from d4] at q7
        have q11 : a'.tmps[11]? = some (us 8) := slot_get ha 8 (by kernel_rfl) (by kernel_rfl)
        rw [show us 8 = .int .i64 (s : Int) from d8] at q11
        refine step_value (v := .int .i64 r) (w2 := w3) ?_ (hK _ _ (Grow.refl _) rfl)
        go_simp
      · refine stageOf_free rfl (fun _ _ _ _ _ _ => wanted_none rfl) ?_
        intro us vals w3 a' ha hle hW hd hv K hK
        obtain ⟨d9, _, _, _, _, _, _, _, _, _, _, _⟩ := hd
        have q12 : a'.tmps[12]? = some (us 9) := slot_get ha 9 (by kernel_rfl) (by kernel_rfl)
        rw [show us 9 = .int .i64 r from d9] at q12
        refine step_value (v := .int .i64 r) (w2 := w3) ?_ (hK _ _ (Grow.refl _) rfl)
        go_simp
    · intro us vals w5 hle hvl hW ht hf
      exact hMx _ _ (Met.intro (hJx _ _ ⟨us 10, us 0, us 1, us 2, us 3, us 4, us 5, us 6, us 7, us 8, us 9, ⟨_, rfl, hf 10 (by decide) rfl, hW⟩, by kernel_rfl⟩))
  case rest =>
  obtain ⟨w5, rfl, rfl, hg5⟩ := hcut
  go_wp2_with fail
  go_ret
  exact ⟨rfl, hg5⟩
/-- nothing below base has turned, nor a row of ints -/
def IntKeep (base : Nat) (w W : World) : Prop := Below base w W ∧ ∀ k cs, Blk w k 3 cs → Blk W k 3 cs
theorem IntKeep.refl (base : Nat) (w : World) : IntKeep base w w := ⟨Below.refl _ _, fun _ _ h => h⟩
theorem IntKeep.trans {base : Nat} {w w1 w2 : World} (h : IntKeep base w w1) (h' : IntKeep base w1 w2) : IntKeep base w w2 := ⟨h.1.trans h'.1, fun k cs hb => h'.2 k cs (h.2 k cs hb)⟩
theorem IntKeep.keep {base : Nat} {w W : World} {S : Nat → Prop} (hk : Keep S w W) (hb : base ≤ w.heap.size) (h1 : ∀ j, S j → base ≤ j) (h2 : ∀ k cs, S k → ¬ Blk w k 3 cs) : IntKeep base w W := ⟨hk.below h1 hb, fun k cs hB => hk.blk hB fun hs => h2 k cs hs hB⟩
theorem IntKeep.grow {base : Nat} {w W : World} (h : Grow w W) (hb : base ≤ w.heap.size) : IntKeep base w W := ⟨Below.mono h hb, fun k cs hB => hB.below h hB.lt⟩
/-- tears lie in a box -/
def TearsAt (base : Nat) (w0 W : World) (bx : Nat) (ts : List Int) : Prop :=
  ∃ (A : Option Addr) (n c B : Nat), Blk W bx 23 #[.slice A n c] ∧ n ≤ c ∧ c ≤ maxLen ∧ (∀ W', IntKeep base w0 W' → ReadsAt W' B 1 A n (ts.map (.int .i64 ·))) ∧ ∀ x ∈ ts, -9223372036854775808 ≤ x ∧ x ≤ 9223372036854775807
theorem TearsAt.keep {base : Nat} {w0 W W' : World} {bx : Nat} {ts : List Int} {S : Nat → Prop} (h : TearsAt base w0 W bx ts) (hk : Keep S W W') (hS : ¬ S bx) : TearsAt base w0 W' bx ts := by
  obtain ⟨A, n, c, B, h1, h2⟩ := h
  exact ⟨A, n, c, B, hk.blk h1 hS, h2⟩
theorem vintsTy : AppTy Try.prog 23 3 (.int .i64 0) 1 8 := AppTy.mk' Try.underlying23 (by kernel_rfl) rfl (by decide)
section
variable {P : Program} {t e : TypeId} {z : Value} {size bytes : Nat} {o : Oper} {a' : Act} {w1 : World} {K : Act → World → Prop} {Q : Exit → Act → World → Prop}
theorem step_cut_tailx (T : AppTy P t e z size bytes) {s : Nat} {x : Operand} (ho : o.op = .slice t (.tmp s) (some x) none none) {A : Option Addr} {n c : Nat} {kd : IntKind} {i : Int} (q1 : a'.tmps[s]? = some (.slice A n c)) (q2 : a'.eval x = .int kd i) (k : Nat) (hi : i = (k : Int)) (hk : k ≤ n)
    (hK : K (a'.put o.dst (.slice (cutA A c k size) (n - k) (c - k))) w1) : o.wp P a' w1 K Q := by
  refine step_value (v := .slice (cutA A c k size) (n - k) (c - k)) (w2 := w1) ?_ hK
  simp only [execOp, ho, Option.map_some, Option.map_none, eval_tmp q1, q2, Sem.run_bind, run_at T, run_cut_tail T A n c k kd i hi hk, Result.andThen_ok, Sem.run_pure]
end
set_option maxRecDepth 100000 in
set_option maxHeartbeats 2000000 in
theorem vnext_any (base bx : Nat) (w0 w : World) (hI : IntKeep base w0 w) (ts : List Int) (hT : TearsAt base w0 w bx ts) (hbase : base ≤ w.heap.size) :
    Calls Try.prog 36 #[pg bx] w fun e w' => ∃ i : Int, e = .returned (.int .i64 i) ∧ -9223372036854775808 ≤ i ∧ i ≤ 9223372036854775807 ∧ TearsAt base w0 w' bx ts.tail ∧ Keep (fun j => j = bx) w w' ∧ i = ts.headD 0 := by
  obtain ⟨A, n, c, B, hb, hnc, hcm, hR, hxs⟩ := hT
  have hc := hb.cell 0
  rcases Nat.eq_zero_or_pos n with hn | hn
  · subst hn
    obtain rfl : ts = [] := by
      have h := (hR w hI).1
      simpa using h
    have HT := Lib.hid (show TearsAt base w0 w bx [] from ⟨A, 0, c, B, hb, hnc, hcm, hR, hxs⟩)
    clear hb hR hxs hnc hI
    go_enter Try.func36, Try.ntmps36
    go_wp2_with fail
    go_ret
    exact ⟨0, rfl, by omega, by omega, HT.out, Keep.refl _ _, rfl⟩
  · obtain ⟨b, off, e, hbB, hcs⟩ := (hR w hI).2 hn
    have hlen := (hR w hI).1
    obtain ⟨i, ts', rfl⟩ : ∃ i ts', ts = i :: ts' := by
      cases ts with
      | nil => simp at hlen; omega
      | cons i ts' => exact ⟨i, ts', rfl⟩
    obtain ⟨hi1, hi2⟩ := hxs i (by simp)
    have hx : ((i :: ts').map (Value.int .i64 ·))[0]? = some (.int .i64 i) := rfl
    have hcx := hcs 0 _ hx
    subst e
    have Hx := Lib.hid (show ∀ W, Grow w W → W.cell? ⟨b, off, none⟩ = some (.int .i64 i) from fun W hg => by
      obtain ⟨b', off', e', -, hcs'⟩ := (hR W (hI.trans (IntKeep.grow hg hbase))).2 hn
      injection e' with e'
      injection e' with e1 e2
      subst e1 e2
      exact hcs' 0 _ hx)
    have Hb := Lib.hid (show ∀ W, Grow w W → Blk W bx 23 #[.slice (some ⟨b, off, none⟩) n c] from fun W hg => hb.below hg hb.lt)
    have HR := Lib.hid hR
    have Hxs := Lib.hid hxs
    have hgt : decide (0 < (n : Int)) = true := decide_eq_true (by omega)
    have hlt : decide (0 < n) = true := decide_eq_true hn
    clear hb hR hxs hx hcs hlen hbB hI hcx
    go_enter Try.func36, Try.ntmps36
    go_upto_region 2 with (fail)
    go_cut [1] from 5 to 9 (fun v1 wx => ∃ W : World, W = wx ∧ v1 = .int .i64 i ∧ Blk W bx 23 #[.slice (cutA (some ⟨b, off, none⟩) c 1 1) (n - 1) (c - 1)] ∧ Keep (fun j => j = bx) w W)
    case first Jx Kx hJx hMx =>
      refine wp_region_stages (by kernel_rfl) ?_
      refine anyOrder_pop rfl (by kernel_rfl) ?_
      refine anyOrder_start [] (Keep (fun _ => False)) ((fun _ W => Grow w W)) (FactsOn [.is (.slice (some ⟨b, off, none⟩) n c), .is (.pointer (some ⟨b, off, none⟩)), .is (.int .i64 i), .is (.slice (some ⟨b, off, none⟩) n c), .is (.slice (cutA (some ⟨b, off, none⟩) c 1 1) (n - 1) (c - 1)), .is (.int .i64 i)]) (fun i => 99) keep_trans keep_grow (fun _ _ _ hg h => Grow.trans h hg) (factsOn_mono _) (by kernel_rfl) (by kernel_rfl) (Grow.refl _) ?_ ?_
      · refine ⟨?_, ?_, ?_, ?_, ?_, ?_, trivial⟩
        · refine stageOf_free rfl (fun _ _ _ _ _ _ => wanted_none rfl) ?_
          intro us vals w3 a' ha hle hW hd hv K hK
          have q0 : a'.tmps[0]? = some (.pointer (some ⟨bx, 0, none⟩)) := slot_old ha (by kernel_rfl) (by kernel_rfl)
          have hc := (Hb.out w3 hW).cell 0
          refine step_value (v := .slice (some ⟨b, off, none⟩) n c) (w2 := w3) ?_ (hK _ _ (Grow.refl _) rfl)
          go_simp
        · refine stageOf_free rfl (fun _ _ _ _ _ _ => wanted_none rfl) ?_
          intro us vals w3 a' ha hle hW hd hv K hK
          obtain ⟨d0, _⟩ := hd
          have q5 : a'.tmps[5]? = some (us 0) := slot_get ha 0 (by kernel_rfl) (by kernel_rfl)
          rw [show us 0 = .slice (some ⟨b, off, none⟩) n c from d0] at q5
          refine step_value (v := .pointer (some ⟨b, off, none⟩)) (w2 := w3) ?_ (hK _ _ (Grow.refl _) rfl)
          go_simp
        · refine stageOf_free rfl (fun _ _ _ _ _ _ => wanted_none rfl) ?_
          intro us vals w3 a' ha hle hW hd hv K hK
          obtain ⟨d1, _⟩ := hd
          have q6 : a'.tmps[6]? = some (us 1) := slot_get ha 1 (by kernel_rfl) (by kernel_rfl)
          rw [show us 1 = .pointer (some ⟨b, off, none⟩) from d1] at q6
          have hc := Hx.out w3 hW
          refine step_value (v := .int .i64 i) (w2 := w3) ?_ (hK _ _ (Grow.refl _) rfl)
          go_simp
        · refine stageOf_free rfl (fun _ _ _ _ _ _ => wanted_none rfl) ?_
          intro us vals w3 a' ha hle hW hd hv K hK
          have q0 : a'.tmps[0]? = some (.pointer (some ⟨bx, 0, none⟩)) := slot_old ha (by kernel_rfl) (by kernel_rfl)
          have hc := (Hb.out w3 hW).cell 0
          refine step_value (v := .slice (some ⟨b, off, none⟩) n c) (w2 := w3) ?_ (hK _ _ (Grow.refl _) rfl)
          go_simp
        · refine stageOf_free rfl (fun _ _ _ _ _ _ => wanted_none rfl) ?_
          intro us vals w3 a' ha hle hW hd hv K hK
          obtain ⟨d3, _⟩ := hd
          have q8 : a'.tmps[8]? = some (us 3) := slot_get ha 3 (by kernel_rfl) (by kernel_rfl)
          rw [show us 3 = .slice (some ⟨b, off, none⟩) n c from d3] at q8
          exact step_cut_tailx vintsTy rfl q8 rfl 1 rfl hn (hK _ _ (Grow.refl _) rfl)
        · refine stageOf_free rfl (fun _ _ _ _ _ _ => wanted_none rfl) ?_
          intro us vals w3 a' ha hle hW hd hv K hK
          obtain ⟨d2, _, _, _, _⟩ := hd
          have q7 : a'.tmps[7]? = some (us 2) := slot_get ha 2 (by kernel_rfl) (by kernel_rfl)
          rw [show us 2 = .int .i64 i from d2] at q7
          refine step_value (v := .int .i64 i) (w2 := w3) ?_ (hK _ _ (Grow.refl _) rfl)
          go_simp
      · intro us vals w5 hle hvl hW ht hf
        have h4 : us 4 = .slice (cutA (some ⟨b, off, none⟩) c 1 1) (n - 1) (c - 1) := hf 4 (by decide) rfl
        have h5 : us 5 = .int .i64 i := hf 5 (by decide) rfl
        have hB := Hb.out w5 hW
        have hz := hB.frozen 0
        have hc := hB.cell 0
        have hks : Keep (fun j => j = bx) w5 (w5.setCell ⟨bx, 0, none⟩ (us 4)) := Keep.setCell w5 ⟨bx, 0, none⟩ _
        have hrun : (Instr.storeAt 23 (.pointer (some ⟨bx, 0, none⟩)) (us 4)).run Try.prog w5 = .ok () (w5.setCell ⟨bx, 0, none⟩ (us 4)) := by
          rw [h4]
          go_simp
        refine lastQ.store1 23 0 9 rfl (u1 := .pointer (some ⟨bx, 0, none⟩)) (u2 := us 4) (by kernel_rfl) (by kernel_rfl) hrun ?_
        exact hMx _ _ (Met.intro (hJx _ _ ⟨us 5, us 0, us 1, us 2, us 3, us 4, ⟨_, rfl, h5, by rw [← h4]; exact hB.set 0 _, (Keep.grow hW).trans' hks⟩, by kernel_rfl⟩))
    case rest =>
    obtain ⟨w5, rfl, rfl, hb5, hk5⟩ := hcut
    have Hb5 := Lib.hid hb5
    have Hk5 := Lib.hid hk5
    clear hb5 hk5
    go_wp2_with fail
    go_ret
    refine ⟨i, rfl, hi1, hi2, ⟨_, n - 1, c - 1, B, Hb5.out, by omega, by omega, fun W' hW' => (HR.out W' hW').tail 1 (by omega) hnc, fun y hy => Hxs.out y (List.mem_cons_of_mem _ hy)⟩, Hk5.out, rfl⟩
end Go.Proofs.Ytcfhhekklakacaa
