/-
  The walk of mudlarklaw03.FrameEnds. Printed by gen/fends.py.
-/
import Derived.Deep.DeepCutAuto
import Derived.Deep.CutRange
import Derived.LoopTactic
import Derived.Test.YtbbjeokecgnfpaaGreatFrameSized
import Derived.Test.YtbbjeokecgnfpaaGreatFramePuts
namespace Go.Proofs.YtbbjeokecgnfpaaGreat
open Go.RowKit WireM

theorem KeptN.grow {w w2 : World} (h : Keep (fun _ => False) w w2) : Grow w w2 := h.below (fun _ h => h.elim) (Nat.le_refl _)
/-- a row of so many bytes -/
def FactOn.bytes (k c : Nat) : FactOn (Keep (fun _ => False)) := ⟨fun u w => ∃ A l, u = .slice A k c ∧ BytesAt w w.heap.size A k l, fun _ _ _ hk ⟨A, l, h1, h2⟩ => ⟨A, l, h1, (h2.below (KeptN.grow hk)).more hk.size⟩⟩
/-- a part of so many bytes -/
def FactOn.part (tag : UInt8) (k c : Nat) : FactOn (Keep (fun _ => False)) := ⟨fun u w => ∃ A l, u = .agg #[.int .u8 (tag.toNat : Int), .slice A k c] ∧ BytesAt w w.heap.size A k l, fun _ _ _ hk ⟨A, l, h1, h2⟩ => ⟨A, l, h1, (h2.below (KeptN.grow hk)).more hk.size⟩⟩
/-- a row of small parts -/
def FactOn.parts (k c : Nat) : FactOn (Keep (fun _ => False)) := ⟨fun u w => ∃ A ts, u = .slice A k c ∧ PartsAt w w.heap.size A k ts ∧ ∀ t ∈ ts, t.b.length ≤ 200, fun _ _ _ hk ⟨A, ts, h1, h2, h3⟩ => ⟨A, ts, h1, (h2.below (KeptN.grow hk)).more hk.size, h3⟩⟩
theorem PartsAt.head {w : World} {B n : Nat} {A : Option Addr} {ts : List PartM} (h : PartsAt w B A n ts) (k : Nat) (hk : k ≤ n) : PartsAt w B A k (ts.take k) := by
  refine ⟨by rw [List.length_take, h.1]; omega, fun hp => ?_⟩
  obtain ⟨b, off, e, hb, hc⟩ := h.2 (by omega)
  refine ⟨b, off, e, hb, fun j t hj => hc j t ?_⟩
  rw [List.getElem?_take] at hj
  split at hj
  · exact hj
  · cases hj
theorem step_make {P : Program} {t e : TypeId} {z : Value} {bytes : Nat} (T : AppTy P t e z 1 bytes) (hz1 : z.cells = #[z]) {o : Oper} {a' : Act} {w1 : World} {K : Act → World → Prop} {Q : Exit → Act → World → Prop} {s : Nat} (ho : o.op = .makeSlice t (.tmp s) (.tmp s)) {kd : IntKind} {i : Int}
    (q : a'.tmps[s]? = some (.int kd i)) (n : Nat) (hi : i = (n : Int)) (hb : bytes * n ≤ 281474976710656) (h63 : n ≤ 9223372036854775807)
    (hK : K (a'.put o.dst (.slice (some ⟨w1.heap.size, 0, none⟩) n n)) (w1.alloc (.cells (List.replicate n z).toArray e))) : o.wp P a' w1 K Q := by
  subst hi
  refine step_value (w2 := w1.alloc (.cells (List.replicate n z).toArray e)) ?_ hK
  simp only [execOp, ho, eval_tmp q, run_make_cells T hz1 kd kd n hb h63 w1, Sem.run_bind, Result.andThen_ok, Sem.run_pure]
/-- three parts that were just made -/
theorem parts3 (w : World) (t : TypeId) (ts : List PartM) (As : List (Option Addr × Nat × Nat)) (h : ∀ (j : Nat) (p : PartM), ts[j]? = some p → ∃ v : Option Addr × Nat × Nat, As[j]? = some v ∧ v.2.1 ≤ v.2.2 ∧ v.2.2 ≤ 1000 ∧ BytesAt w w.heap.size v.1 v.2.1 p.b) (hl : As.length = ts.length) :
    PartsAt (w.alloc (.cells ((ts.zip As).flatMap fun q => [Value.int .u8 (q.1.tag.toNat : Int), sliceOf q.2]).toArray t)) (w.alloc (.cells ((ts.zip As).flatMap fun q => [Value.int .u8 (q.1.tag.toNat : Int), sliceOf q.2]).toArray t)).heap.size (some ⟨w.heap.size, 0, none⟩) ts.length ts := by
  refine ⟨rfl, fun _ => ⟨w.heap.size, 0, rfl, by simp, fun j p hj => ?_⟩⟩
  obtain ⟨v, hv, h1, h2, h3⟩ := h j p hj
  have hz : ((ts.zip As).map fun q => (q.1, sliceOf q.2))[j]? = some (p, sliceOf v) := by
    rw [List.getElem?_map, show (ts.zip As)[j]? = some (p, v) from List.getElem?_zip_eq_some.2 ⟨hj, hv⟩]
    rfl
  refine ⟨[.int .u8 (p.tag.toNat : Int), sliceOf v], rfl, ⟨v.1, v.2.1, v.2.2, rfl, h1, by unfold maxLen; omega, by omega, (h3.below (Grow.alloc _ _)).more (by simp)⟩, fun i u hu => ?_⟩
  rw [(Blk.new w t _).cell, Nat.zero_add]
  have h5 := zip_cells _ j _ hz i u hu
  rw [List.flatMap_map] at h5
  simpa using h5

theorem TwoWays.old {w w' : World} {base e size n m : Nat} {v v' : Value} {xs news : List Value} (h : TwoWays w v n m v' w') (ho : w.ownsRow base e size v n xs) (h' : w'.ownsRow base e size v' (n + m) (xs ++ news)) : w'.ownsRow base e size v n xs := by
  rcases h with ⟨g, cap, rfl, rfl, hg⟩ | ⟨-, hg⟩
  · have h1 := own_prefix h' (k := n) (by omega)
    rw [List.take_append_of_le_length (by rw [ho.1]; exact Nat.le_refl _), List.take_of_length_le (by rw [ho.1]; exact Nat.le_refl _)] at h1
    exact h1
  · exact own_below ho hg
/-- append in an operation that is guarded, and wanted; the old row told -/
theorem wpList_append_two_g {P : Program} (w : World) {ops : Array Oper} {rest : List Oper} {o : Oper} {a : Act} {Q : Exit → Act → World → Prop} (hgd : Region.wanted o (yielded ops a.tmps) = true) (s x : Operand) {t : TypeId}
    (ho : o.op = .call { callee := .builtin .append, args := #[s, x], argTypes := #[t, t] })
    {base e size bytes : Nat} {z : Value} (T : AppTy P t e z size bytes) {v : Value} {n : Nat} {xs : List Value} (hs : a.eval s = v) (hown : w.ownsRow base e size v n xs)
    {B : Nat} {A : Option Addr} {m c : Nat} {news : List Value} (hx : a.eval x = .slice A m c) (hr : ReadsAt w B size A m news) (h1 : ∀ u ∈ news, u.oneCell' = true)
    (h63 : n + m ≤ maxLen) (hbytes : (n + m) * bytes ≤ 140737488355328) (hbase : base ≤ w.heap.size)
    (h : ∀ v' w', w'.ownsRow base e size v' (n + m) (xs ++ news) → TwoWays w v n m v' w' → wpList P ops Q rest (a.put o.dst v') w') : wpList P ops Q (o :: rest) a w := by
  refine wpList_step fun K hK => ?_
  rw [if_pos hgd]
  obtain ⟨v', w', hrun, h2, h3⟩ := run_append_two (P := P) w (ty := o.type) T hown (c := c) hr h1 h63 hbytes hbase
  unfold Oper.wp execOp
  simp only [ho, resolve, invoke, builtin, Sem.run_bind, Sem.run_pure, Result.andThen_ok, List.map_toArray, List.map_cons, List.map_nil, hs, hx, hrun]
  exact hK _ _ (h v' w' h2 h3)

set_option maxRecDepth 100000 in
set_option maxHeartbeats 4000000 in
theorem fends_walk (w : World) : Calls Tryz.prog 5 #[] w fun e w' => e = .returned (.bool true) ∧ Below w.heap.size w w' := by
  have bytesTy : AppTy Tryz.prog 26 5 (.int .u8 0) 1 1 := AppTy.mk' Tryz.underlying26 (by kernel_rfl) rfl (by decide)
  go_enter Tryz.func5, Tryz.ntmps5
  go_wp2
  go_loopw [1] (fun v1 wr => ∃ i : Nat, i ≤ 60 ∧ v1 = .int .i64 (i : Int) ∧ Grow w wr) (fun v1 _ => 60 - (intOf v1).toNat)
  case atStart => exact ⟨0, by omega, rfl, Grow.refl _⟩
  case round =>
    obtain ⟨i, hi, rfl, hg⟩ := hrel
    have Hg := Lib.hid hg
    clear hg
    by_cases hlt : i < 60
    · have d1 : decide ((i : Int) < 60) = true := decide_eq_true (by omega)
      obtain ⟨tg, htg⟩ : ∃ tg : UInt8, (tg.toNat : Int) = (i : Int) := ⟨UInt8.ofNat i, by rw [UInt8.toNat_ofNat', Nat.mod_eq_of_lt (by omega)]⟩
      obtain ⟨k3, hk3, hk3l⟩ : ∃ k3 : Nat, (i : Int).tmod 3 = (k3 : Int) ∧ k3 ≤ 3 := ⟨i % 3, by rw [Int.tmod_eq_emod_of_nonneg (by omega)]; omega, by omega⟩
      obtain ⟨k4, hk4, hk4l⟩ : ∃ k4 : Nat, (i : Int).tmod 4 = (k4 : Int) ∧ k4 ≤ 3 := ⟨i % 4, by rw [Int.tmod_eq_emod_of_nonneg (by omega)]; omega, by omega⟩
      obtain ⟨k5, hk5, hk5l⟩ : ∃ k5 : Nat, (i : Int).tdiv 4 = (k5 : Int) ∧ k5 ≤ 15 := ⟨i / 4, by rw [Int.tdiv_eq_ediv_of_nonneg (by omega)]; omega, by omega⟩
      obtain ⟨k6, hk6, hk6l⟩ : ∃ k6 : Nat, (i : Int).tdiv 12 = (k6 : Int) ∧ k6 ≤ 5 := ⟨i / 12, by rw [Int.tdiv_eq_ediv_of_nonneg (by omega)]; omega, by omega⟩
      obtain ⟨k7, hk7, hk7l⟩ : ∃ k7 : Nat, (k6 : Int).tmod 4 = (k7 : Int) ∧ k7 ≤ 3 := ⟨k6 % 4, by rw [Int.tmod_eq_emod_of_nonneg (by omega)]; omega, by omega⟩
      have H3 := Lib.hid hk3
      have H4 := Lib.hid hk4
      have H5 := Lib.hid hk5
      have H6 := Lib.hid hk6
      have H7 := Lib.hid hk7
      have Htg := Lib.hid htg
      clear hk3 hk4 hk5 hk6 hk7 htg
      go_upto_region 4 with (fail)
      go_cut [2] from 13 to 33 (fun v2 wx => (FactOn.parts k7 3).p v2 wx ∧ Grow wr wx)
      case first Jx Kx hJx hMx =>
        refine wp_region_stages (by kernel_rfl) ?_
        refine anyOrder_start [] (Keep (fun _ => False)) ((fun _ w => Grow wr w)) (FactsOn [.is (.int .i64 (i : Int)), .is (.int .u8 (tg.toNat : Int)), .is (.int .i64 (i : Int)), .is (.int .i64 ((k3 : Int))), .bytes k3 k3, .part tg k3 k3, .bytes 3 3, .is (.int .i64 (i : Int)), .is (.int .i64 ((k4 : Int))), .bytes k4 3, .part 0 k4 3, .is (.int .i64 (i : Int)), .is (.int .i64 ((k5 : Int))), .is (.int .i64 (120 + (k5 : Int))), .bytes (120 + k5) (120 + k5), .part 255 (120 + k5) (120 + k5), .parts 3 3, .is (.int .i64 (i : Int)), .is (.int .i64 ((k6 : Int))), .is (.int .i64 ((k7 : Int))), .parts k7 3, .parts k7 3]) (fun i => 99) keep_trans keep_grow (fun _ _ _ hg h => Grow.trans h hg) (factsOn_mono _) (by kernel_rfl) (by kernel_rfl) (Grow.refl _) ?_ ?_
        · refine ⟨?_, ?_, ?_, ?_, ?_, ?_, ?_, ?_, ?_, ?_, ?_, ?_, ?_, ?_, ?_, ?_, ?_, ?_, ?_, ?_, ?_, ?_, trivial⟩
          · refine stageOf_free rfl (fun _ _ _ _ _ _ => wanted_none rfl) ?_
            intro us vals w3 a' ha hle hW hd hv K hK
            have q1 : a'.tmps[1]? = some (.int .i64 (i : Int)) := slot_old ha (by kernel_rfl) (by kernel_rfl)
            exact step_value (w2 := w3) (by go_simp) (hK _ _ (Grow.refl _) rfl)
          · refine stageOf_free rfl (fun _ _ _ _ _ _ => wanted_none rfl) ?_
            intro us vals w3 a' ha hle hW hd hv K hK
            obtain ⟨d0, _⟩ := hd
            have q13 : a'.tmps[13]? = some (us 0) := slot_get ha 0 (by kernel_rfl) (by kernel_rfl)
            rw [show us 0 = .int .i64 (i : Int) from d0] at q13
            refine step_value (v := .int .u8 (tg.toNat : Int)) (w2 := w3) ?_ (hK _ _ (Grow.refl _) rfl)
            go_simp
            rw [Htg.out]
            exact wrap_u8 _ (by omega) (by omega)
          · refine stageOf_free rfl (fun _ _ _ _ _ _ => wanted_none rfl) ?_
            intro us vals w3 a' ha hle hW hd hv K hK
            have q1 : a'.tmps[1]? = some (.int .i64 (i : Int)) := slot_old ha (by kernel_rfl) (by kernel_rfl)
            exact step_value (w2 := w3) (by go_simp) (hK _ _ (Grow.refl _) rfl)
          · refine stageOf_free rfl (fun _ _ _ _ _ _ => wanted_none rfl) ?_
            intro us vals w3 a' ha hle hW hd hv K hK
            obtain ⟨d2, _⟩ := hd
            have q15 : a'.tmps[15]? = some (us 2) := slot_get ha 2 (by kernel_rfl) (by kernel_rfl)
            rw [show us 2 = .int .i64 (i : Int) from d2] at q15
            refine step_value (v := .int .i64 (k3 : Int)) (w2 := w3) ?_ (hK _ _ (Grow.refl _) rfl)
            go_simp
            exact H3.out
          · refine stageOf_free rfl (fun _ _ _ _ _ _ => wanted_none rfl) ?_
            intro us vals w3 a' ha hle hW hd hv K hK
            obtain ⟨d3, _, _⟩ := hd
            have q16 : a'.tmps[16]? = some (us 3) := slot_get ha 3 (by kernel_rfl) (by kernel_rfl)
            rw [show us 3 = .int .i64 ((k3 : Int)) from d3] at q16
            refine step_make bytesTy rfl rfl q16 (k3) (by omega) (by omega) (by omega) (hK _ _ (Grow.alloc _ _) ⟨_, List.replicate (k3) 0, rfl, ?_⟩)
            have h9 := BytesAt.made w3 5 (List.replicate (k3) 0)
            rw [List.map_replicate, List.length_replicate] at h9
            exact h9.more (by simp)
          · refine stageOf_free rfl (fun _ _ _ _ _ _ => wanted_none rfl) ?_
            intro us vals w3 a' ha hle hW hd hv K hK
            obtain ⟨d1, ⟨A4, l4, u4, b4⟩, _⟩ := hd
            have q14 : a'.tmps[14]? = some (us 1) := slot_get ha 1 (by kernel_rfl) (by kernel_rfl)
            rw [show us 1 = .int .u8 (tg.toNat : Int) from d1] at q14
            have q17 : a'.tmps[17]? = some (us 4) := slot_get ha 4 (by kernel_rfl) (by kernel_rfl)
            rw [u4] at q17
            refine step_value (v := .agg #[.int .u8 (((tg : UInt8).toNat : Nat) : Int), .slice A4 (k3) (k3)]) (w2 := w3) ?_ (hK _ _ (Grow.refl _) ⟨_, l4, rfl, b4⟩)
            go_simp
          · refine stageOf_free rfl (fun _ _ _ _ _ _ => wanted_none rfl) ?_
            intro us vals w3 a' ha hle hW hd hv K hK
            refine step_value (v := .slice (some ⟨w3.heap.size, 0, none⟩) 3 3) (w2 := w3.alloc (.cells #[.int .u8 1, .int .u8 2, .int .u8 3] 5)) (by go_simp) (hK _ _ (Grow.alloc _ _) ⟨_, [1, 2, 3], rfl, ?_⟩)
            exact (BytesAt.made w3 5 [1, 2, 3]).more (by simp)
          · refine stageOf_free rfl (fun _ _ _ _ _ _ => wanted_none rfl) ?_
            intro us vals w3 a' ha hle hW hd hv K hK
            have q1 : a'.tmps[1]? = some (.int .i64 (i : Int)) := slot_old ha (by kernel_rfl) (by kernel_rfl)
            exact step_value (w2 := w3) (by go_simp) (hK _ _ (Grow.refl _) rfl)
          · refine stageOf_free rfl (fun _ _ _ _ _ _ => wanted_none rfl) ?_
            intro us vals w3 a' ha hle hW hd hv K hK
            obtain ⟨d7, _⟩ := hd
            have q20 : a'.tmps[20]? = some (us 7) := slot_get ha 7 (by kernel_rfl) (by kernel_rfl)
            rw [show us 7 = .int .i64 (i : Int) from d7] at q20
            refine step_value (v := .int .i64 (k4 : Int)) (w2 := w3) ?_ (hK _ _ (Grow.refl _) rfl)
            go_simp
            exact H4.out
          · refine stageOf_free rfl (fun _ _ _ _ _ _ => wanted_none rfl) ?_
            intro us vals w3 a' ha hle hW hd hv K hK
            obtain ⟨⟨A6, l6, u6, b6⟩, d8, _⟩ := hd
            have q19 : a'.tmps[19]? = some (us 6) := slot_get ha 6 (by kernel_rfl) (by kernel_rfl)
            rw [u6] at q19
            have q21 : a'.tmps[21]? = some (us 8) := slot_get ha 8 (by kernel_rfl) (by kernel_rfl)
            rw [show us 8 = .int .i64 ((k4 : Int)) from d8] at q21
            exact step_cut_head bytesTy rfl q19 q21 k4 rfl (by omega) (hK _ _ (Grow.refl _) ⟨_, l6.take k4, rfl, b6.head k4 (by omega)⟩)
          · refine stageOf_free rfl (fun _ _ _ _ _ _ => wanted_none rfl) ?_
            intro us vals w3 a' ha hle hW hd hv K hK
            obtain ⟨⟨A9, l9, u9, b9⟩, _⟩ := hd
            have q22 : a'.tmps[22]? = some (us 9) := slot_get ha 9 (by kernel_rfl) (by kernel_rfl)
            rw [u9] at q22
            refine step_value (v := .agg #[.int .u8 (((0 : UInt8).toNat : Nat) : Int), .slice A9 (k4) (3)]) (w2 := w3) ?_ (hK _ _ (Grow.refl _) ⟨_, l9, rfl, b9⟩)
            go_simp
          · refine stageOf_free rfl (fun _ _ _ _ _ _ => wanted_none rfl) ?_
            intro us vals w3 a' ha hle hW hd hv K hK
            have q1 : a'.tmps[1]? = some (.int .i64 (i : Int)) := slot_old ha (by kernel_rfl) (by kernel_rfl)
            exact step_value (w2 := w3) (by go_simp) (hK _ _ (Grow.refl _) rfl)
          · refine stageOf_free rfl (fun _ _ _ _ _ _ => wanted_none rfl) ?_
            intro us vals w3 a' ha hle hW hd hv K hK
            obtain ⟨d11, _⟩ := hd
            have q24 : a'.tmps[24]? = some (us 11) := slot_get ha 11 (by kernel_rfl) (by kernel_rfl)
            rw [show us 11 = .int .i64 (i : Int) from d11] at q24
            refine step_value (v := .int .i64 (k5 : Int)) (w2 := w3) ?_ (hK _ _ (Grow.refl _) rfl)
            go_simp
            have h9 := H5.out
            rw [Int.tdiv_eq_ediv_of_nonneg (by omega)] at h9
            rw [h9]
            exact IntWalk.i64_in _ (by omega)
          · refine stageOf_free rfl (fun _ _ _ _ _ _ => wanted_none rfl) ?_
            intro us vals w3 a' ha hle hW hd hv K hK
            obtain ⟨d12, _⟩ := hd
            have q25 : a'.tmps[25]? = some (us 12) := slot_get ha 12 (by kernel_rfl) (by kernel_rfl)
            rw [show us 12 = .int .i64 ((k5 : Int)) from d12] at q25
            refine step_value (v := .int .i64 (120 + (k5 : Int))) (w2 := w3) ?_ (hK _ _ (Grow.refl _) rfl)
            go_simp
            exact IntWalk.i64_in _ (by omega)
          · refine stageOf_free rfl (fun _ _ _ _ _ _ => wanted_none rfl) ?_
            intro us vals w3 a' ha hle hW hd hv K hK
            obtain ⟨d13, _, _⟩ := hd
            have q26 : a'.tmps[26]? = some (us 13) := slot_get ha 13 (by kernel_rfl) (by kernel_rfl)
            rw [show us 13 = .int .i64 (120 + (k5 : Int)) from d13] at q26
            refine step_make bytesTy rfl rfl q26 (120 + k5) (by omega) (by omega) (by omega) (hK _ _ (Grow.alloc _ _) ⟨_, List.replicate (120 + k5) 0, rfl, ?_⟩)
            have h9 := BytesAt.made w3 5 (List.replicate (120 + k5) 0)
            rw [List.map_replicate, List.length_replicate] at h9
            exact h9.more (by simp)
          · refine stageOf_free rfl (fun _ _ _ _ _ _ => wanted_none rfl) ?_
            intro us vals w3 a' ha hle hW hd hv K hK
            obtain ⟨⟨A14, l14, u14, b14⟩, _⟩ := hd
            have q27 : a'.tmps[27]? = some (us 14) := slot_get ha 14 (by kernel_rfl) (by kernel_rfl)
            rw [u14] at q27
            refine step_value (v := .agg #[.int .u8 (((255 : UInt8).toNat : Nat) : Int), .slice A14 (120 + k5) (120 + k5)]) (w2 := w3) ?_ (hK _ _ (Grow.refl _) ⟨_, l14, rfl, b14⟩)
            go_simp
          · refine stageOf_free rfl (fun _ _ _ _ _ _ => wanted_none rfl) ?_
            intro us vals w3 a' ha hle hW hd hv K hK
            obtain ⟨⟨A5, l5, u5, b5⟩, ⟨A10, l10, u10, b10⟩, ⟨A15, l15, u15, b15⟩, _⟩ := hd
            have q18 : a'.tmps[18]? = some (us 5) := slot_get ha 5 (by kernel_rfl) (by kernel_rfl)
            rw [u5] at q18
            have q23 : a'.tmps[23]? = some (us 10) := slot_get ha 10 (by kernel_rfl) (by kernel_rfl)
            rw [u10] at q23
            have q28 : a'.tmps[28]? = some (us 15) := slot_get ha 15 (by kernel_rfl) (by kernel_rfl)
            rw [u15] at q28
            refine step_value (v := .slice (some ⟨w3.heap.size, 0, none⟩) 3 3) (w2 := w3.alloc (.cells (([(⟨tg, l5⟩ : PartM), ⟨0, l10⟩, ⟨255, l15⟩].zip [(A5, k3, k3), (A10, k4, 3), (A15, 120 + k5, 120 + k5)]).flatMap fun q => [Value.int .u8 (q.1.tag.toNat : Int), sliceOf q.2]).toArray 45)) ?_ (hK _ _ (Grow.alloc _ _) ⟨_, [(⟨tg, l5⟩ : PartM), ⟨0, l10⟩, ⟨255, l15⟩], rfl, ?_, ?_⟩)
            · go_simp
              rfl
            · refine parts3 w3 45 [(⟨tg, l5⟩ : PartM), ⟨0, l10⟩, ⟨255, l15⟩] [(A5, k3, k3), (A10, k4, 3), (A15, 120 + k5, 120 + k5)] (fun j p hj => ?_) rfl
              match j, hj with
              | 0, hj => cases hj; exact ⟨_, rfl, Nat.le_refl _, (show k3 ≤ 1000 by omega), b5⟩
              | 1, hj => cases hj; exact ⟨_, rfl, hk4l, (show 3 ≤ 1000 by omega), b10⟩
              | 2, hj => cases hj; exact ⟨_, rfl, Nat.le_refl _, (show 120 + k5 ≤ 1000 by omega), b15⟩
            · intro t ht
              simp only [List.mem_cons, List.not_mem_nil, or_false] at ht
              have h5 := b5.len
              have h10 := b10.len
              have h15 := b15.len
              rcases ht with rfl | rfl | rfl
              · show l5.length ≤ 200; omega
              · show l10.length ≤ 200; omega
              · show l15.length ≤ 200; omega
          · refine stageOf_free rfl (fun _ _ _ _ _ _ => wanted_none rfl) ?_
            intro us vals w3 a' ha hle hW hd hv K hK
            have q1 : a'.tmps[1]? = some (.int .i64 (i : Int)) := slot_old ha (by kernel_rfl) (by kernel_rfl)
            exact step_value (w2 := w3) (by go_simp) (hK _ _ (Grow.refl _) rfl)
          · refine stageOf_free rfl (fun _ _ _ _ _ _ => wanted_none rfl) ?_
            intro us vals w3 a' ha hle hW hd hv K hK
            obtain ⟨d17, _⟩ := hd
            have q30 : a'.tmps[30]? = some (us 17) := slot_get ha 17 (by kernel_rfl) (by kernel_rfl)
            rw [show us 17 = .int .i64 (i : Int) from d17] at q30
            refine step_value (v := .int .i64 (k6 : Int)) (w2 := w3) ?_ (hK _ _ (Grow.refl _) rfl)
            go_simp
            have h9 := H6.out
            rw [Int.tdiv_eq_ediv_of_nonneg (by omega)] at h9
            rw [h9]
            exact IntWalk.i64_in _ (by omega)
          · refine stageOf_free rfl (fun _ _ _ _ _ _ => wanted_none rfl) ?_
            intro us vals w3 a' ha hle hW hd hv K hK
            obtain ⟨d18, _⟩ := hd
            have q31 : a'.tmps[31]? = some (us 18) := slot_get ha 18 (by kernel_rfl) (by kernel_rfl)
            rw [show us 18 = .int .i64 ((k6 : Int)) from d18] at q31
            refine step_value (v := .int .i64 (k7 : Int)) (w2 := w3) ?_ (hK _ _ (Grow.refl _) rfl)
            go_simp
            exact H7.out
          · refine stageOf_free rfl (fun _ _ _ _ _ _ => wanted_none rfl) ?_
            intro us vals w3 a' ha hle hW hd hv K hK
            obtain ⟨⟨A16, ts16, u16, b16, s16⟩, d19, _⟩ := hd
            have q29 : a'.tmps[29]? = some (us 16) := slot_get ha 16 (by kernel_rfl) (by kernel_rfl)
            rw [u16] at q29
            have q32 : a'.tmps[32]? = some (us 19) := slot_get ha 19 (by kernel_rfl) (by kernel_rfl)
            rw [show us 19 = .int .i64 ((k7 : Int)) from d19] at q32
            exact step_cut_head partTy rfl q29 q32 k7 rfl (by omega) (hK _ _ (Grow.refl _) ⟨_, ts16.take k7, rfl, b16.head k7 (by omega), fun t ht => s16 t (List.mem_of_mem_take ht)⟩)
          · refine stageOf_free rfl (fun _ _ _ _ _ _ => wanted_none rfl) ?_
            intro us vals w3 a' ha hle hW hd hv K hK
            obtain ⟨⟨A20, ts20, u20, b20, s20⟩, _, _, _, _, _, _, _, _, _, _, _, _, _, _, _, _, _, _, _, _, _, _⟩ := hd
            have q33 : a'.tmps[33]? = some (us 20) := slot_get ha 20 (by kernel_rfl) (by kernel_rfl)
            rw [u20] at q33
            exact step_value (w2 := w3) (by go_simp) (hK _ _ (Grow.refl _) ⟨_, _, rfl, b20, s20⟩)
        · intro us vals w3 hle hvl hV _ hf
          exact hMx _ _ (Met.intro (hJx _ _ ⟨us 21, us 0, us 1, us 2, us 3, us 4, us 5, us 6, us 7, us 8, us 9, us 10, us 11, us 12, us 13, us 14, us 15, us 16, us 17, us 18, us 19, us 20, ⟨hf 21 (by decide) rfl, hV⟩, by kernel_rfl⟩))
      case rest =>
        obtain ⟨⟨A2, ts, rfl, hT, hts⟩, hg2⟩ := hcut
        obtain ⟨W2, rfl⟩ : ∃ W2 : World, W2 = wc := ⟨_, rfl⟩
        have hk7n : k7 = ts.length := hT.len.symm
        have hbl : (fileB ts).length ≤ 100000 := by
          rw [fileB_len]
          have : ∀ ts : List PartM, (∀ t ∈ ts, t.b.length ≤ 200) → (bodyB ts).length ≤ ts.length * 300 := fun ts => by
            induction ts with
            | nil => intro _; simp [bodyB]
            | cons a r ih =>
              intro h
              have h1 := ih fun t ht => h t (by simp [ht])
              have h2 := h a (by simp)
              have h3 := enc_len6 a.b.length (by omega)
              simp only [bodyB, partB, List.length_append, List.length_cons]
              omega
          have := this ts hts
          omega
        have HT := Lib.hid hT
        have Hg2 := Lib.hid (Hg.out.trans hg2)
        have hk7N : k7 ≤ 4398046510976 := by omega
        have Hbl := Lib.hid hbl
        clear hT hg2 hts hk7n
        go_wp2_with fail
        refine (rPut_any W2 A2 k7 3 ts HT.out hk7N (by omega)).mono ?_
        rintro e W3 ⟨r3, rfl, ho3, hg3⟩
        obtain ⟨f, hf⟩ : ∃ f, f = (fileB ts).length := ⟨_, rfl⟩
        obtain ⟨L3, hL3⟩ : ∃ L3, L3 = fileB ts := ⟨_, rfl⟩
        rw [← hf, ← hL3] at ho3
        rw [← hf] at hbl
        obtain ⟨A3, c3, rfl, h31, h32, h33⟩ := own_reads ho3
        have HT3 := Lib.hid ((HT.out.below hg3).more hg3.size)
        have Hg3 := Lib.hid (Hg2.out.trans hg3)
        have hz23 := hg3.size
        have Ho3 := Lib.hid ho3
        clear hg3 h33 ho3 hf hL3
        go_wp2_with fail
        refine (fputs_walk W3 A2 k7 3 ts HT3.out hk7N).mono ?_
        rintro e W4 ⟨rfl, hg4⟩
        have hg4 : Grow W3 W4 := hg4
        have hz34 := hg4.size
        have ho4 := own_below Ho3.out hg4
        obtain ⟨A3', c3', e3, -, -, h43⟩ := own_reads ho4
        injection e3 with e3 _ e4
        subst e3 e4
        have Hf4 := Lib.hid (show Calls Tryz.prog 4 #[.slice A3 f c3, .int .i64 (i : Int), .int .u32 1] W4 fun e w' => e = .returned (.bool true) ∧ Below W4.heap.size W4 w' from fgets_walk W4 A3 f c3 L3 (i : Int) 1 h43 h31 h32 (by omega) (by omega))
        have Ho4 := Lib.hid ho4
        have Hg4 := Lib.hid (Hg3.out.trans hg4)
        clear ho4 h43 hg4
        go_wp2_with fail
        refine Hf4.out.mono ?_
        rintro e W5 ⟨rfl, hg5⟩
        have hg5 : Grow W4 W5 := hg5
        have hz45 := hg5.size
        have ho5 := own_below Ho4.out hg5
        have Hg5 := Lib.hid (Hg4.out.trans hg5)
        have hgA : Grow W5 (W5.alloc (.cells #[.int .u8 0] 5)) := Grow.alloc _ _
        have hoA := own_below ho5 hgA
        have hzA : W2.heap.size ≤ (W5.alloc (.cells #[.int .u8 0] 5)).heap.size := by
          have h4 := hgA.size
          omega
        clear hg5 ho5
        go_wp2_with (at_builtin; refine wpList_append_two_g _ (by kernel_rfl) (.tmp 49) (.tmp 50) rfl bytesTy rfl hoA rfl (BytesAt.made1 W5 5 0) (b8_one [0]) (by simp only [maxLen]; omega) (by omega) hzA ?_; intro v6 W6 hown6 htw6)
        have ho6 := htw6.old hoA hown6
        have hw2 := Hg2.out.size
        have hg6 : Grow w W6 := Below.trans (Hg5.out.trans hgA) (htw6.keep.below (fun j hj => Nat.le_trans hw2 (hoA.lt j hj).1) (Nat.le_trans hw2 hzA))
        rw [show L3.map b8 ++ ([0] : List UInt8).map b8 = (L3 ++ [0]).map b8 by rw [List.map_append]] at hown6
        obtain ⟨A6, c6, rfl, h61, h62, h63⟩ := own_reads hown6
        have Hf6 := Lib.hid (show Calls Tryz.prog 4 #[.slice A6 (f + 1) c6, .int .i64 (-(i : Int)), .int .u32 3] W6 fun e w' => e = .returned (.bool true) ∧ Below W6.heap.size W6 w' from fgets_walk W6 A6 (f + 1) c6 _ (-(i : Int)) 3 h63 h61 h62 (by omega) (by omega))
        have Ho6 := Lib.hid ho6
        have Hg6 := Lib.hid hg6
        clear htw6 hown6 ho6 hg6 h63 hoA hgA
        refine Hf6.out.mono ?_
        rintro e W7 ⟨rfl, hg7⟩
        have hg7 : Grow W6 W7 := hg7
        have Ho7 := Lib.hid (own_below Ho6.out hg7)
        have Hg7 := Lib.hid (Hg6.out.trans hg7)
        clear hg7
        go_wp2_with fail
        go_loopw [5] (fun v5 wr => ∃ k : Nat, k ≤ 300000 ∧ v5 = .int .i64 (k : Int) ∧ Grow W7 wr) (fun v5 _ => f - (intOf v5).toNat)
        case atStart => exact ⟨0, by omega, rfl, Grow.refl _⟩
        case round =>
          obtain ⟨k, hkb, rfl, hgk⟩ := hrel
          have Hgk := Lib.hid hgk
          clear hgk
          by_cases hkl : k < f
          · have dk : decide ((k : Int) < (f : Int)) = true := decide_eq_true (by omega)
            have hcut := fun W => run_cut_head bytesTy A3 f c3 k .i64 (k : Int) rfl (by omega) W
            have hok := own_below Ho7.out Hgk.out
            obtain ⟨A3', c3', e3, -, -, h73⟩ := own_reads hok
            injection e3 with e3 _ e4
            subst e3 e4
            have Hf8 := Lib.hid (show Calls Tryz.prog 4 #[.slice A3 k c3, .int .i64 (k : Int), .int .u32 2147483648] wr fun e w' => e = .returned (.bool true) ∧ Below wr.heap.size wr w' from fgets_walk wr A3 k c3 _ (k : Int) 2147483648 (BytesAt.head h73 k (by omega)) (by omega) h32 (by omega) (by omega))
            clear hok h73
            go_wp2_with fail
            refine Hf8.out.mono ?_
            rintro e W8 ⟨rfl, hg8⟩
            have hg8 : Grow wr W8 := hg8
            have Hg8 := Lib.hid (Hgk.out.trans hg8)
            clear hg8
            go_wp2
            go_roundw
            case rel => exact ⟨k + 1 + k / 20, by omega, by go_num, Hg8.out⟩
            case measure => simp [intOf]; omega
          · have dk : decide ((k : Int) < (f : Int)) = false := decide_eq_false (by omega)
            have Hgz := Lib.hid (Hg7.out.trans Hgk.out)
            go_wp2
            go_roundw
            case rel => exact ⟨i + 1, by omega, by go_num, Hgz.out⟩
            case measure => simp [intOf]; omega
    · obtain rfl : i = 60 := by omega
      have hgs : Grow wr (wr.alloc (.cells #[.int .u8 9] 5)) := Grow.alloc _ _
      have hPs := parts3 (wr.alloc (.cells #[.int .u8 9] 5)) 45 [⟨7, [9]⟩] [(some ⟨wr.heap.size, 0, none⟩, 1, 1)] (fun j p hj => by
        match j, hj with
        | 0, hj => cases hj; exact ⟨_, rfl, Nat.le_refl _, (show 1 ≤ 1000 by omega), (BytesAt.made1 wr 5 9).more (by simp)⟩) rfl
      have hPs2 : PartsAt ((wr.alloc (.cells #[.int .u8 9] 5)).alloc (.cells #[.int .u8 7, .slice (some ⟨wr.heap.size, 0, none⟩) 1 1] 45)) ((wr.alloc (.cells #[.int .u8 9] 5)).alloc (.cells #[.int .u8 7, .slice (some ⟨wr.heap.size, 0, none⟩) 1 1] 45)).heap.size (some ⟨wr.heap.size + 1, 0, none⟩) 1 [⟨7, [9]⟩] := by
        have h1 : (wr.alloc (.cells #[.int .u8 9] 5)).heap.size = wr.heap.size + 1 := World.size_alloc _ _
        rw [h1] at hPs
        exact hPs
      have hgq : Grow wr ((wr.alloc (.cells #[.int .u8 9] 5)).alloc (.cells #[.int .u8 7, .slice (some ⟨wr.heap.size, 0, none⟩) 1 1] 45)) := hgs.trans (Grow.alloc _ _)
      have hfl : (fileB [⟨7, [9]⟩]).length ≤ 100 := by
        have h3 := enc_len6 (0 + 1) (by omega)
        rw [fileB_len]
        simp only [bodyB, partB, List.length_append, List.length_cons, List.length_nil]
        omega
      have Hput := Lib.hid (rPut_any _ _ 1 1 [⟨7, [9]⟩] hPs2 (by omega) (by omega))
      have Hgq := Lib.hid (Hg.out.trans hgq)
      clear hPs hPs2 hgs hgq
      go_wp2_with fail
      refine Hput.out.mono ?_
      rintro e W3 ⟨r3, rfl, ho3, hg3⟩
      obtain ⟨f, hf⟩ : ∃ f, f = (fileB [⟨7, [9]⟩]).length := ⟨_, rfl⟩
      obtain ⟨L3, hL3⟩ : ∃ L3, L3 = fileB [⟨7, [9]⟩] := ⟨_, rfl⟩
      rw [← hf, ← hL3] at ho3
      rw [← hf] at hfl
      obtain ⟨A3, c3, rfl, h31, h32, h33⟩ := own_reads ho3
      have Hg3 := Lib.hid (Hgq.out.trans hg3)
      have H33 : Hid (BytesAt W3 W3.heap.size A3 f L3) := h33
      clear hg3 h33 ho3 hf hL3
      go_wp2_with fail
      go_loopw [8] (fun v8 wr => ∃ j : Nat, j ≤ 8 * f + 3 ∧ v8 = .int .i64 ((j : Int) - 1) ∧ Grow W3 wr) (fun v8 _ => 8 * f + 3 - (intOf v8 + 1).toNat)
      case atStart => exact ⟨0, by omega, rfl, Grow.refl _⟩
      case round =>
        obtain ⟨j, hj, rfl, hgk⟩ := hrel
        have Hgk := Lib.hid hgk
        clear hgk
        by_cases hjl : j < 8 * f + 3
        · have dk : decide ((j : Int) - 1 < 8 * (f : Int) + 2) = true := decide_eq_true (by omega)
          go_wp2_with fail
          refine (Calls.mono (show Calls Tryz.prog 19 #[.slice A3 f c3, .int .i64 ((j : Int) - 1), .int .u32 2147483649] _ _ from rBurst_any _ W3.heap.size A3 f c3 L3 ((j : Int) - 1) 2147483649 (H33.out.below Hgk.out) Hgk.out.size (by omega) (by omega) (by omega)) ?_)
          rintro e W4 ⟨r4, x4, rfl, -, ho4, hg4⟩
          have e33 : L3.length = f := H33.out.len
          rw [e33] at ho4
          obtain ⟨A4, c4, rfl, h41, h42, h43⟩ := own_reads ho4
          have Hf8 := Lib.hid (show Calls Tryz.prog 4 #[.slice A4 f c4, .int .i64 ((j : Int) - 1), .int .u32 4294967295] W4 fun e w' => e = .returned (.bool true) ∧ Below W4.heap.size W4 w' from fgets_walk W4 A4 f c4 _ ((j : Int) - 1) 4294967295 h43 h41 h42 (by omega) (by omega))
          have Hg4 := Lib.hid (Hgk.out.trans hg4)
          clear e33 ho4 h43 hg4
          go_wp2_with fail
          refine Hf8.out.mono ?_
          rintro e W8 ⟨rfl, hg8⟩
          have hg8 : Grow W4 W8 := hg8
          have Hg8 := Lib.hid (Hg4.out.trans hg8)
          clear hg8
          go_wp2
          go_roundw
          case rel => exact ⟨j + 1, by omega, by go_num, Hg8.out⟩
          case measure => simp [intOf]; omega
        · have dk : decide ((j : Int) - 1 < 8 * (f : Int) + 2) = false := decide_eq_false (by omega)
          have Hgz := Lib.hid (Hg3.out.trans Hgk.out)
          go_wp2_with fail
          refine (sized03_any _).mono ?_
          rintro e W9 ⟨rfl, hg9⟩
          go_wp2_with fail
          refine (awake03_any _).mono ?_
          rintro e W10 ⟨rfl, hg10⟩
          go_wp2
          go_ret
          exact ⟨rfl, Hgz.out.trans (hg9.trans hg10)⟩
end Go.Proofs.YtbbjeokecgnfpaaGreat
