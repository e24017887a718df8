/-
  The walk of mudlarklaw03's sized: files whose sums fit, whose sizes, whose parts' lengths do not. Printed by gen/sized.py.
-/
import Derived.Deep.DeepCutAuto
import Derived.Deep.CutRange
import Derived.LoopTactic
import Derived.Test.YtbbjeokecgnfpaaGreatFrameFit
import Derived.Test.YtbbjeokecgnfpaaGreatFrameGets
import Derived.Test.YtbbjeokecgnfpaaGreatFrameRPut
namespace Go.Proofs.YtbbjeokecgnfpaaGreat
open Go.RowKit WireM

/-- append in an operation that is guarded, and wanted -/
theorem wpList_append_reads_g {P : Program} (w : World) {ops : Array Oper} {rest : List Oper} {o : Oper} {a : Act} {Q : Exit → Act → World → Prop} (hgd : Region.wanted o (yielded ops a.tmps) = true) (s x : Operand) {t : TypeId}
    (ho : o.op = .call { callee := .builtin .append, args := #[s, x], argTypes := #[t, t] })
    {base e size bytes : Nat} {z : Value} (T : AppTy P t e z size bytes) {v : Value} {n : Nat} {xs : List Value} (hs : a.eval s = v) (hown : w.ownsRow base e size v n xs)
    {B : Nat} {A : Option Addr} {m c : Nat} {news : List Value} (hx : a.eval x = .slice A m c) (hr : ReadsAt w B size A m news) (h1 : ∀ u ∈ news, u.oneCell' = true)
    (h63 : n + m ≤ maxLen) (hbytes : (n + m) * bytes ≤ 140737488355328) (hbase : base ≤ w.heap.size)
    (h : ∀ v' w', w'.ownsRow base e size v' (n + m) (xs ++ news) → w.grownBy w' v.ownBlock → (v'.ownBlock = v.ownBlock ∨ v'.ownBlock = some w.heap.size) → wpList P ops Q rest (a.put o.dst v') w') : wpList P ops Q (o :: rest) a w :=
  wpList_step fun K hK => by
    rw [if_pos hgd]
    exact wp_append_reads w s x ho T hs hown hx hr h1 h63 hbytes hbase fun v' w' h2 h3 h4 => hK _ _ (h v' w' h2 h3 h4)
theorem u8_of (x : Int) : ∃ y : UInt8, IntKind.u8.wrap x = (y.toNat : Int) := ⟨UInt8.ofNat (x % 256).toNat, by
  have e2 : IntKind.u8.wrap x = x % 256 := by simp [IntKind.wrap, IntKind.bits, IntKind.signed]
  rw [e2]
  exact u8_mod x⟩

/-- the chain of append(append([]byte{}, ..), ..) -/
def tx2W (w0 : World) (n : Nat) (l : List UInt8) (m : Nat) (l2 : List UInt8) : List Value → World → Prop
  | [], w => Keep (NewS w0.heap.size) w0 w
  | [x], w => Keep (NewS w0.heap.size) w0 w ∧ w.ownsRow w0.heap.size 5 1 x 0 []
  | [_, x], w => Keep (NewS w0.heap.size) w0 w ∧ w.ownsRow w0.heap.size 5 1 x n (l.map b8)
  | [_, _, x], w => Keep (NewS w0.heap.size) w0 w ∧ w.ownsRow w0.heap.size 5 1 x (n + m) ((l ++ l2).map b8)
  | [_, _, _, x], w => Keep (NewS w0.heap.size) w0 w ∧ w.ownsRow w0.heap.size 5 1 x (n + m) ((l ++ l2).map b8)
  | _, _ => False
theorem tx2W.grow {w0 : World} {n m : Nat} {l l2 : List UInt8} : ∀ (vals : List Value) (w w2 : World), Grow w w2 → tx2W w0 n l m l2 vals w → tx2W w0 n l m l2 vals w2
  | [], _, _, hg, h => Keep.trans' h (Keep.grow hg)
  | [_], _, _, hg, h => ⟨Keep.trans' h.1 (Keep.grow hg), own_below h.2 hg⟩
  | [_, _], _, _, hg, h => ⟨Keep.trans' h.1 (Keep.grow hg), own_below h.2 hg⟩
  | [_, _, _], _, _, hg, h => ⟨Keep.trans' h.1 (Keep.grow hg), own_below h.2 hg⟩
  | [_, _, _, _], _, _, hg, h => ⟨Keep.trans' h.1 (Keep.grow hg), own_below h.2 hg⟩
  | _ :: _ :: _ :: _ :: _ :: _, _, _, _, h => h
theorem NewS.grow {w w2 : World} (h : Keep (NewS w.heap.size) w w2) : Grow w w2 := h.below (fun _ h => h) (Nat.le_refl _)

set_option maxRecDepth 100000 in
set_option maxHeartbeats 4000000 in
theorem sized03_any (w : World) : Calls Tryz.prog 22 #[] w fun e w' => e = .returned (.bool true) ∧ Grow w w' := by
  have bytesTy : AppTy Tryz.prog 26 5 (.int .u8 0) 1 1 := AppTy.mk' Tryz.underlying26 (by kernel_rfl) rfl (by decide)
  go_enter Tryz.func22, Tryz.ntmps22
  go_wp2
  go_loopw [1] (fun v1 wr => ∃ i : Nat, i ≤ 40 ∧ v1 = .int .i64 (i : Int) ∧ Grow w wr) (fun v1 _ => 40 - (intOf v1).toNat)
  case atStart => exact ⟨0, by omega, rfl, Grow.refl _⟩
  case round =>
    obtain ⟨i, hi, rfl, hg⟩ := hrel
    have Hg := Lib.hid hg
    clear hg
    by_cases hlt : i < 40
    · have d1 : decide ((i : Int) < 40) = true := decide_eq_true (by omega)
      obtain ⟨lb, hlb⟩ : ∃ lb : List UInt8, lb = [UInt8.ofNat (8 + i % 8), 0, 0, UInt8.ofNat (i / 20), 1, UInt8.ofNat (i % 5), 5, 6] := ⟨_, rfl⟩
      have hcells : (lb.map b8).toArray = #[.int .u8 (8 + (i : Int) % 8), .int .u8 0, .int .u8 0, .int .u8 ((i : Int) / 20), .int .u8 1, .int .u8 ((i : Int) % 5), .int .u8 5, .int .u8 6] := by
        rw [hlb]
        simp [b8]
        omega
      have hg1 : Grow wr (wr.alloc (.cells (lb.map b8).toArray 5)) := Grow.alloc _ _
      have hB8 : BytesAt (wr.alloc (.cells (lb.map b8).toArray 5)) (wr.heap.size + 1) (some ⟨wr.heap.size, 0, none⟩) 8 lb := by
        have := BytesAt.of_row (l := lb) (B := wr.heap.size + 1) (Blk.new wr 5 (lb.map b8).toArray).cells (by omega)
        rw [show lb.length = 8 by rw [hlb]; rfl] at this
        exact this
      have hBk := hB8.head (4 + i % 5) (by omega)
      rw [hcells] at hg1 hBk
      obtain ⟨W1, hW1⟩ : ∃ W1, wr.alloc (.cells #[.int .u8 (8 + (i : Int) % 8), .int .u8 0, .int .u8 0, .int .u8 ((i : Int) / 20), .int .u8 1, .int .u8 ((i : Int) % 5), .int .u8 5, .int .u8 6] 5) = W1 := ⟨_, rfl⟩
      rw [hW1] at hg1 hBk
      obtain ⟨lk, hlk⟩ : ∃ lk, lk = lb.take (4 + i % 5) := ⟨_, rfl⟩
      rw [← hlk] at hBk
      have hzw : wr.heap.size + 1 ≤ W1.heap.size := by rw [← hW1]; simp
      have HBk := Lib.hid hBk
      have Hg1 := Lib.hid hg1
      clear hcells hB8 hlb hlk hBk hg1
      go_wp2_with fail
      clear hW1
      refine (rPut_any W1 none 0 0 [] ⟨rfl, fun h => absurd h (by omega)⟩ (by omega) (by decide)).mono ?_
      rintro e W2 ⟨r2, rfl, ho2, hg2⟩
      have hl0 : (fileB []).length = 8 := by rw [fileB_len]; rfl
      rw [hl0] at ho2
      obtain ⟨A2, c2, rfl, h21, h22, h23⟩ := own_reads ho2
      have hBs : BytesAt W2 W2.heap.size (cutA A2 c2 4 1) 4 ((fileB []).drop 4) := BytesAt.tail h23 4 (by omega) h21
      have hk5 : 4 + i % 5 ≤ 8 := by omega
      obtain ⟨k, hk⟩ : ∃ k, k = 4 + i % 5 := ⟨_, rfl⟩
      rw [← hk] at hk5 HBk ⊢
      have hBk2 := (HBk.out.below (Below.mono hg2 hzw)).more (Nat.le_trans hzw hg2.size)
      have HBk2 := Lib.hid hBk2
      have HBs := Lib.hid hBs
      have hkl := Lib.hid HBk.out.len
      have Hg2 := Lib.hid (Hg.out.trans (Hg1.out.trans hg2))
      clear hBk2 hBs h23 ho2 hk hg2
      go_upto_region 6 with (fail)
      go_cut [5] from 29 to 34 (fun v5 wx => wx.ownsRow W2.heap.size 5 1 v5 (k + 4) ((lk ++ (fileB []).drop 4).map b8) ∧ Grow W2 wx)
      case first Jx Kx hJx hMx =>
        refine wp_region_stages (by kernel_rfl) ?_
        refine anyOrder_start [0, 2, 5, 6] (Keep (NewS W2.heap.size)) ((tx2W W2 k lk 4 ((fileB []).drop 4))) (FactsOn [.any, .is (.slice (some ⟨wr.heap.size, 0, none⟩) k 8), .any, .is (.slice A2 8 c2), .is (.slice (cutA A2 c2 4 1) (8 - 4) (c2 - 4)), .any, .any]) (fun i => 99) keep_trans keep_grow (tx2W.grow) (factsOn_mono _) (by kernel_rfl) (by kernel_rfl) (show tx2W W2 k lk 4 ((fileB []).drop 4) [] W2 from Keep.refl _ _) ?_ ?_
        · refine ⟨?_, ?_, ?_, ?_, ?_, ?_, ?_, trivial⟩
          · refine stageOf_mem (t := 0) rfl ?_
            intro us vals w3 a' ha hle hW hd hv
            obtain rfl := List.eq_nil_of_length_eq_zero (Nat.le_zero.1 (show vals.length ≤ 0 from Nat.le_of_eq hv))
            refine ⟨wanted_none rfl, fun K hK => ?_⟩
            refine step_value (v := .slice (some ⟨w3.heap.size, 0, none⟩) 0 0) (w2 := w3.alloc (.cells #[] 5)) (by go_simp) (hK _ _ (Keep.grow (Grow.alloc _ _)) ⟨hW.trans' (Keep.grow (Grow.alloc _ _)), World.ownsRow_made w3 #[] 0 hle.size (by decide) rfl⟩)
          · refine stageOf_free rfl (fun _ _ _ _ _ _ => wanted_none rfl) ?_
            intro us vals w3 a' ha hle hW hd hv K hK
            have q2 : a'.tmps[2]? = some (.slice (some ⟨wr.heap.size, 0, none⟩) k 8) := slot_old ha (by kernel_rfl) (by kernel_rfl)
            exact step_value (w2 := w3) (by go_simp) (hK _ _ (Grow.refl _) rfl)
          · refine stageOf_mem (t := 1) rfl ?_
            intro us vals w3 a' ha hle hW hd hv
            obtain ⟨d0, d1, _⟩ := hd
            obtain ⟨x0, rfl⟩ := List.length_eq_one_iff.1 hv
            obtain rfl : us 0 = x0 := by have h0 : some x0 = some (us 0) := d0; injection h0 with h0; exact h0.symm
            refine ⟨wanted_none rfl, fun K hK => ?_⟩
            have q29 : a'.tmps[29]? = some (us 0) := slot_get ha 0 (by kernel_rfl) (by kernel_rfl)
            have q30 : a'.tmps[30]? = some (us 1) := slot_get ha 1 (by kernel_rfl) (by kernel_rfl)
            rw [show us 1 = .slice (some ⟨wr.heap.size, 0, none⟩) k 8 from d1] at q30
            refine wp_append_reads w3 (.tmp 29) (.tmp 30) rfl bytesTy (evalT q29) hW.2 (evalT q30) ((HBk2.out.below (NewS.grow hle)).more hle.size) (b8_one _) (by simp only [maxLen]; omega) (by omega) hle.size ?_
            intro v2 w4 ho hg hat
            have hk : Keep (NewS W2.heap.size) w3 w4 := (Keep.grown hg).mono fun j hj => Or.inl (hW.2.lt j hj).1
            exact hK _ _ hk ⟨hW.1.trans' hk, by simpa using ho⟩
          · refine stageOf_free rfl (fun _ _ _ _ _ _ => wanted_none rfl) ?_
            intro us vals w3 a' ha hle hW hd hv K hK
            have q3 : a'.tmps[3]? = some (.slice A2 8 c2) := slot_old ha (by kernel_rfl) (by kernel_rfl)
            exact step_value (w2 := w3) (by go_simp) (hK _ _ (Grow.refl _) rfl)
          · refine stageOf_free rfl (fun _ _ _ _ _ _ => wanted_none rfl) ?_
            intro us vals w3 a' ha hle hW hd hv K hK
            obtain ⟨d3, _⟩ := hd
            have q32 : a'.tmps[32]? = some (us 3) := slot_get ha 3 (by kernel_rfl) (by kernel_rfl)
            rw [show us 3 = .slice A2 8 c2 from d3] at q32
            refine step_value (v := .slice (cutA A2 c2 4 1) (8 - 4) (c2 - 4)) (w2 := w3) ?_ (hK _ _ (Grow.refl _) rfl)
            have h9 := run_cut_tail bytesTy A2 8 c2 4 .i64 4 rfl (by omega) w3
            have hcst : a'.eval (.const (.int .i64 4)) = .int .i64 4 := rfl
            simp only [execOp, Option.map_some, Option.map_none, evalT q32, hcst, Sem.run_bind, run_at bytesTy, h9, Result.andThen_ok, Sem.run_pure]
          · refine stageOf_mem (t := 2) rfl ?_
            intro us vals w3 a' ha hle hW hd hv
            obtain ⟨d2, d4, _, _⟩ := hd
            refine ⟨wanted_none rfl, fun K hK => ?_⟩
            have q31 : a'.tmps[31]? = some (us 2) := slot_get ha 2 (by kernel_rfl) (by kernel_rfl)
            have q33 : a'.tmps[33]? = some (us 4) := slot_get ha 4 (by kernel_rfl) (by kernel_rfl)
            rw [show us 4 = .slice (cutA A2 c2 4 1) (8 - 4) (c2 - 4) from d4] at q33
            obtain ⟨a0, a1, rfl⟩ : ∃ a0 a1, vals = [a0, a1] := by match vals, hv with | [a0, a1], _ => exact ⟨a0, a1, rfl⟩
            have e16 : a1 = us 2 := by have h0 : some a1 = some (us 2) := d2; injection h0
            subst e16
            refine wp_append_reads w3 (.tmp 31) (.tmp 33) rfl bytesTy (evalT q31) hW.2 (evalT q33) ((HBs.out.below (NewS.grow hle)).more hle.size) (b8_one _) (by simp only [maxLen]; omega) (by omega) hle.size ?_
            intro v2 w4 ho hg hat
            have hk : Keep (NewS W2.heap.size) w3 w4 := (Keep.grown hg).mono fun j hj => Or.inl (hW.2.lt j hj).1
            exact hK _ _ hk ⟨hW.1.trans' hk, by rw [List.map_append]; exact ho⟩
          · refine stageOf_mem (t := 3) rfl ?_
            intro us vals w3 a' ha hle hW hd hv
            obtain ⟨d5, _, _, _, _, _, _, _, _⟩ := hd
            refine ⟨wanted_none rfl, fun K hK => ?_⟩
            have q34 : a'.tmps[34]? = some (us 5) := slot_get ha 5 (by kernel_rfl) (by kernel_rfl)
            obtain ⟨a0, a1, a2, rfl⟩ : ∃ a0 a1 a2, vals = [a0, a1, a2] := by match vals, hv with | [a0, a1, a2], _ => exact ⟨a0, a1, a2, rfl⟩
            have e16 : a2 = us 5 := by have h0 : some a2 = some (us 5) := d5; injection h0
            subst e16
            exact step_value (w2 := w3) (by go_simp) (hK _ _ (Keep.refl _ _) hW)
        · intro us vals w3 hle hvl hV htl _
          obtain ⟨a0, a1, a2, a3, rfl⟩ : ∃ a0 a1 a2 a3, vals = [a0, a1, a2, a3] := by match vals, hvl with | [a0, a1, a2, a3], _ => exact ⟨a0, a1, a2, a3, rfl⟩
          have e2 : a3 = us 6 := by have h0 : some a3 = some (us 6) := htl 3 (by simp); injection h0
          subst e2
          exact hMx _ _ (Met.intro (hJx _ _ ⟨us 6, us 0, us 1, us 2, us 3, us 4, us 5, ⟨hV.2, NewS.grow hV.1⟩, by kernel_rfl⟩))
      case rest =>
        obtain ⟨ho5, hg5⟩ := hcut
        obtain ⟨W5, rfl⟩ : ∃ W5 : World, W5 = wc := ⟨_, rfl⟩
        obtain ⟨A5, c5, rfl, h51, h52, h53⟩ := own_reads ho5
        have hm5 : (((BitVec.ofNat 32 i).toNat : Nat) : Int) = (i : Int) := by rw [BitVec.toNat_ofNat, Nat.mod_eq_of_lt (by omega)]
        have hf5 := fgets_walk W5 A5 (k + 4) c5 _ (i : Int) (BitVec.ofNat 32 i) h53 h51 h52 (by omega) (by omega)
        rw [hm5] at hf5
        have Hf5 := Lib.hid hf5
        have Hm5 := Lib.hid hm5
        have HBk5 := Lib.hid ((HBk2.out.below hg5).more hg5.size)
        have Hg5 := Lib.hid (Hg2.out.trans hg5)
        clear hf5 h53 hm5 hg5
        go_wp2_with fail
        refine Hf5.out.mono ?_
        rintro e W6 ⟨rfl, hg6⟩
        have hg6 : Grow W5 W6 := hg6
        go_wp2_with fail
        refine (fit03_any W6 W6.heap.size _ k 8 lk ((HBk5.out.below hg6).more hg6.size) (Nat.le_refl _) (by omega) (by unfold maxLen; omega) (by omega)).mono ?_
        rintro e W7 ⟨r7, k7, L7, rfl, hk7, ho7, hg7⟩
        obtain ⟨A7, c7, rfl, h71, h72, h73⟩ := own_reads ho7
        have hf7 := fgets_walk W7 A7 k7 c7 _ (i : Int) (BitVec.ofNat 32 i) h73 h71 h72 (by omega) (by omega)
        rw [Hm5.out] at hf7
        have Hf7 := Lib.hid hf7
        clear hf7 h73
        go_wp2_with fail
        refine Hf7.out.mono ?_
        rintro e W8 ⟨rfl, hg8⟩
        have hg8 : Grow W7 W8 := hg8
        have hg58 := hg6.trans (hg7.trans hg8)
        obtain ⟨y, hy⟩ : ∃ y : UInt8, (k : Int) + 8 = (y.toNat : Int) := ⟨UInt8.ofNat (k + 8), by rw [UInt8.toNat_ofNat', Nat.mod_eq_of_lt (by omega)]; omega⟩
        have hBk8 := (HBk5.out.below hg58).more hg58.size
        have hg9 : Grow W8 (W8.alloc (.cells #[.int .u8 (y.toNat : Int), .int .u8 0, .int .u8 0, .int .u8 0] 5)) := Grow.alloc _ _
        have hown9 : (W8.alloc (.cells #[.int .u8 (y.toNat : Int), .int .u8 0, .int .u8 0, .int .u8 0] 5)).ownsRow W8.heap.size 5 1 (.slice (some ⟨W8.heap.size, 0, none⟩) 4 4) 4 (([y, 0, 0, 0] : List UInt8).map b8) :=
          ⟨rfl, Or.inr ⟨W8.heap.size, 4, _, rfl, Nat.le_refl _, heap_alloc_new _ _, Nat.le_refl _, by decide, rfl, rfl⟩⟩
        have hBk9 := hBk8.below hg9
        have hz9 := hg9.size
        have Hg8 := Lib.hid (Hg5.out.trans hg58)
        clear hg58 hBk8 ho5 h71 h72 hg8 hg7 hg6 ho7
        go_wp2_with (at_builtin; refine wpList_append_reads_g _ (by kernel_rfl) (.tmp 55) (.tmp 56) rfl bytesTy rfl hown9 rfl hBk9 (b8_one _) (by simp only [maxLen]; omega) (by omega) hz9 ?_; intro v10 w10 hown10 hgr10 hat10)
        have hg10 : Grow W8 w10 := Below.trans hg9 ((Keep.grown hgr10).below (fun j hj => by injection hj with hj; rw [← hj]; exact Nat.le_refl _) hz9)
        rw [← List.map_append] at hown10
        obtain ⟨A10, c10, rfl, h101, h102, h103⟩ := own_reads hown10
        have H103 := Lib.hid h103
        clear hgr10 hat10 hown10 hown9 hBk9 h103
        go_wp2_with fail
        refine (fit03_any w10 w10.heap.size _ (4 + k) c10 _ H103.out (Nat.le_refl _) h101 h102 (by omega)).mono ?_
        rintro e W11 ⟨r11, k11, L11, rfl, hk11, ho11, hg11⟩
        obtain ⟨A11, c11, rfl, h111, h112, h113⟩ := own_reads ho11
        have hf11 := fgets_walk W11 A11 k11 c11 _ 0 0 h113 h111 h112 (by omega) (by omega)
        have Hf11 := Lib.hid (show Calls Tryz.prog 4 #[.slice A11 k11 c11, .int .i64 0, .int .u32 0] W11 fun e w' => e = .returned (.bool true) ∧ Below W11.heap.size W11 w' from hf11)
        clear hf11 h113
        go_wp2_with fail
        refine Hf11.out.mono ?_
        rintro e W12 ⟨rfl, hg12⟩
        have hg12 : Grow W11 W12 := hg12
        have Hg12 := Lib.hid (Hg8.out.trans (hg10.trans (hg11.trans hg12)))
        clear hg10 hg11 hg12 ho11
        go_wp2
        go_roundw
        case rel => exact ⟨i + 1, by omega, by go_num, Hg12.out⟩
        case measure => simp [intOf]; omega
    · obtain rfl : i = 40 := by omega
      go_wp2
      go_ret
      exact ⟨rfl, Hg.out⟩
end Go.Proofs.YtbbjeokecgnfpaaGreat
