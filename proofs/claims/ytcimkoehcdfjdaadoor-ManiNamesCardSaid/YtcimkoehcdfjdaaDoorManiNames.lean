/-
  The walk of mudlarklaw25.ManiNames: names of numbers about the ends, and numbers of names with other letters.
-/
import Derived.Lib.SlBytesConst
import Derived.Laws.BytesArg
import Derived.Deep.DeepCutAuto
import Derived.Deep.CutRange
import Derived.Deep.MidRow
import Derived.Test.YtcimkoehcdfjdaaDoorRefNames
import Derived.Test.YtcimkoehcdfjdaaDoorManiUse
namespace Go.Proofs.YtcimkoehcdfjdaaDoor
open Go.RowKit WireM
set_option linter.unusedVariables false
attribute [local go_sem] Oper.semAt_some

theorem name25_any (w : World) (s : ByteArray) (hs : s.size ≤ 281474976710656) (hL : LaidOk w) : Calls Tryd.prog 10 #[.string s] w fun e w' => e = .returned (.bool true) ∧ Grow w w' := by
  obtain ⟨⟨v, ok⟩, hv⟩ : ∃ q, q = numB s.data.toList := ⟨_, rfl⟩
  have HA := Lib.hid (Num_any w s hs hL v ok hv)
  have HB := Lib.hid (fun w' => mrNum_any w' s hs v ok (Lib.hid (hv.trans (refNum_numB _).symm)))
  clear hv
  go_enter Tryd.func10, Tryd.ntmps10
  go_wp2_with fail
  refine HA.out.mono ?_
  rintro e w1 ⟨rfl, hg1⟩
  go_wp2_with fail
  refine (HB.out w1).mono ?_
  rintro e w2 ⟨rfl, rfl⟩
  go_wp2
  go_ret
  exact ⟨rfl, hg1⟩
def nums25 : List Int := [-9223372036854775808, -1, 0, 1, 9, 10, 99, 1048576, 1099511627775, 1099511627776, 1099511627777, 9223372036854775807]
/-- the values of a chain's calls, in their order -/
def valsW (val : Nat → Value) (vals : List Value) (_ : World) : Prop := ∀ (j : Nat) (v : Value), vals[j]? = some v → v = val j
theorem valsW.grow {val : Nat → Value} : ∀ (vals : List Value) (w w' : World), Grow w w' → valsW val vals w → valsW val vals w' := fun _ _ _ _ h => h
theorem valsW.nil (val : Nat → Value) (w : World) : valsW val [] w := fun j v h => by simp at h
theorem valsW.v {val : Nat → Value} {vals : List Value} {w : World} {j : Nat} {v : Value} (h : valsW val vals w) (hv : vals[j]? = some v) : v = val j := h j v hv
theorem valsW.snoc {val : Nat → Value} {vals : List Value} {w w' : World} {k : Nat} {v : Value} (h : valsW val vals w) (hk : vals.length = k) (hv : v = val k) : valsW val (vals ++ [v]) w' := fun j u hu => by
  by_cases hj : j < vals.length
  · rw [List.getElem?_append_left hj] at hu
    exact h j u hu
  · rw [List.getElem?_append_right (by omega)] at hu
    have hj0 : j - vals.length = 0 := by
      rcases Nat.lt_or_ge (j - vals.length) 1 with h | h
      · omega
      · rw [List.getElem?_eq_none (by simpa using h)] at hu
        cases hu
    rw [hj0] at hu
    obtain rfl : v = u := by simpa using hu
    rw [show j = k by omega]
    exact hv
def mnVal (NB : Value) : Nat → Value
  | 0 => NB
  | 1 => NB
  | _ => .bool true
/-- one operation waits for another -/
def edgeB (ops : Array Oper) (i j : Nat) : Bool := match ops[i]? with
  | some o => (o.after.toList.filter (Region.binds .any)).any fun e => e.on == j
  | none => false
def pathB (ops : Array Oper) : Nat → List Nat → Nat → Bool
  | i, [], j => edgeB ops i j
  | i, k :: r, j => edgeB ops i k && pathB ops k r j
theorem reach_edge {ops : Array Oper} {i j f : Nat} (h : edgeB ops i j = true) : j ∈ reach ops (f + 1) i ∧ ∀ x, x ∈ reach ops f j → x ∈ reach ops (f + 1) i := by
  unfold edgeB at h
  rw [reach]
  cases ho : ops[i]? with
  | none => rw [ho] at h; cases h
  | some o =>
    rw [ho] at h
    obtain ⟨e, he, hj⟩ := List.any_eq_true.1 h
    have hj2 : e.on = j := by simpa using hj
    exact ⟨List.mem_flatMap.2 ⟨e, he, by rw [hj2]; simp⟩, fun x hx => List.mem_flatMap.2 ⟨e, he, by rw [hj2]; exact List.mem_cons_of_mem _ hx⟩⟩
theorem reach_path {ops : Array Oper} {j : Nat} : ∀ (p : List Nat) (i f : Nat), pathB ops i p j = true → p.length < f → j ∈ reach ops f i
  | [], i, f + 1, h, _ => (reach_edge h).1
  | k :: r, i, f + 1, h, hf => by
    simp only [pathB, Bool.and_eq_true] at h
    exact (reach_edge h.1).2 _ (reach_path r k f h.2 (by simp only [List.length_cons] at hf; omega))
  | [], i, 0, _, hf => by simp at hf
  | _ :: _, i, 0, _, hf => by simp at hf
/-- a chain, by a way from each call to the one before -/
theorem chainOk_paths {ops : Array Oper} {ms : List Nat} (ps : List (List Nat)) (h1 : (ms.all fun i => decide (i < ops.size)) = true) (h2 : ((List.range ms.length).all fun t => decide (t = 0) || (pathB ops (ms.getD t 0) (ps.getD t []) (ms.getD (t - 1) 0) && decide ((ps.getD t []).length < ops.size))) = true) (h3 : ms.length ≤ 99) (h4 : ms.Nodup) :
    chainOk ops ms (fun _ => 99) = true := by
  unfold chainOk
  rw [Bool.and_eq_true, Bool.and_eq_true, Bool.and_eq_true]
  refine ⟨⟨⟨h1, ?_⟩, ?_⟩, decide_eq_true h4⟩
  · refine List.all_eq_true.2 fun t ht => ?_
    have h := List.all_eq_true.1 h2 t ht
    rw [Bool.or_eq_true] at h ⊢
    rcases h with h | h
    · exact Or.inl h
    · rw [Bool.and_eq_true] at h
      refine Or.inr ?_
      rw [List.contains_iff_mem]
      exact reach_path _ _ _ h.1 (of_decide_eq_true h.2)
  · refine List.all_eq_true.2 fun i _ => ?_
    rw [Bool.or_eq_true]
    exact Or.inl (decide_eq_true h3)
set_option maxRecDepth 100000 in
set_option maxHeartbeats 8000000 in
theorem mnames_walk (w : World) (hL : LaidOk w) : Calls Tryd.prog 3 #[] w fun e w' => e = .returned (.bool true) ∧ Below w.heap.size w w' := by
  go_enter Tryd.func3, Tryd.ntmps3
  obtain ⟨W, hW⟩ : ∃ W, w.alloc (.cells #[.int .i64 (-9223372036854775808), .int .i64 (-1), .int .i64 0, .int .i64 1, .int .i64 9, .int .i64 10, .int .i64 99, .int .i64 1048576, .int .i64 1099511627775, .int .i64 1099511627776, .int .i64 1099511627777, .int .i64 9223372036854775807] 3) = W := ⟨_, rfl⟩
  have hG : Grow w W := by rw [← hW]; exact Grow.alloc _ _
  have hB : Blk W w.heap.size 3 (nums25.map i64v).toArray := by rw [← hW]; exact Blk.new _ _ _
  have hLW := hL.grow hG
  go_wp2
  try rw [hW]
  clear hW hL
  go_loopw [2] (fun v2 wr => ∃ k : Nat, k ≤ 12 ∧ v2 = .int .i64 (k : Int) ∧ Hid (Grow W wr)) (fun v2 _ => 12 - (intOf v2).toNat)
  case atStart => exact ⟨0, by omega, rfl, Grow.refl _⟩
  case round =>
    obtain ⟨k, hk, rfl, HG⟩ := hrel
    have hL := hLW.grow HG.out
    by_cases hlt : k < 12
    · have hBr := Grow.blkOf HG.out hB
      obtain ⟨x, hx⟩ : ∃ x, nums25[k]? = some x := ⟨_, List.getElem?_eq_getElem hlt⟩
      have hxw : -9223372036854775808 ≤ x ∧ x ≤ 9223372036854775807 := by
        have h1 := List.mem_of_getElem? hx
        simp only [nums25, List.mem_cons, List.not_mem_nil, or_false] at h1
        omega
      obtain ⟨hx1, hx2⟩ := hxw
      have hcx0 : wr.cell? ⟨w.heap.size, k, none⟩ = some (.int .i64 x) := by
        have h1 := hBr.cell k
        rw [h1]
        simp [List.getElem?_map, hx, i64v]
      obtain ⟨S, hS⟩ : ∃ S : ByteArray, S = ⟨(Lib.itoa x).toArray⟩ := ⟨_, rfl⟩
      have hSl : S.size ≤ 21 := by
        rw [hS]
        have := Lib.itoa_length_le x hx1 hx2
        show (Lib.itoa x).toArray.size ≤ 21
        simpa using this
      have HI := Lib.hid (fun W' (h : LaidOk W') => Tryd.strconv_Itoa x hx1 hx2 W' h.tab)
      have hlz := hBr.lt
      rw [← hS] at HI
      clear hx hBr hS
      go_upto_region 6 with (fail)
      refine (HI.out wr hL).mono ?_
      rintro e w1 ⟨rfl, q1, os1, rfl⟩
      have hg := sort_grow wr q1 os1
      obtain ⟨wq, hwq⟩ : ∃ wq, Sort.grow (wr.drewN q1) os1 = wq := ⟨_, rfl⟩
      rw [hwq] at hg
      rw [hwq]
      clear hwq
      have hLr := hL.grow hg
      have HG2 := Lib.hid (HG.out.trans hg)
      have hcx : ∀ W', Grow wq W' → W'.cell? ⟨w.heap.size, k, none⟩ = some (.int .i64 x) := fun W' h => (h.cell (p := ⟨w.heap.size, k, none⟩) (Nat.lt_of_lt_of_le hlz hg.size)).trans ((hg.cell (p := ⟨w.heap.size, k, none⟩) hlz).trans hcx0)
      have hz1 : ¬ 9223372036854775807 < 1 + S.size := by omega
      have hz2 : ¬ 9223372036854775807 < 2 + S.size := by omega
      have hz3 : ¬ 9223372036854775807 < 3 + S.size := by omega
      have hz4 : ¬ 9223372036854775807 < 4 + S.size := by omega
      have hy1 : ¬ 9223372036854775807 < 2 + S.size + 1 := by omega
      have hy2 : ¬ 9223372036854775807 < 2 + S.size + 2 := by omega
      have hy3 : ¬ 9223372036854775807 < 2 + S.size + 22 := by omega
      clear hg HG hL hcx0 HI
      go_upto_region 6 with (fail)
      go_cut [95] from 17 to 95 (fun v95 wx => v95 = .bool false ∧ Grow wq wx)
      case first Jx Kx hJx hMx =>
        refine wp_region_stages (by kernel_rfl) ?_
        refine anyOrder_start [4, 9, 14, 20, 26, 32, 39, 45, 50, 56, 63, 70, 76] (Keep (fun _ => False)) (valsW (mnVal (.string ⟨(nameB x).toArray⟩))) (FactsOn [.is (.slice (some ⟨w.heap.size, 0, none⟩) 12 12), .is (.int .i64 (k : Int)), .is (.pointer (some ⟨w.heap.size, k, none⟩)), .is (.int .i64 x), .any, .is (.slice (some ⟨w.heap.size, 0, none⟩) 12 12), .is (.int .i64 (k : Int)), .is (.pointer (some ⟨w.heap.size, k, none⟩)), .is (.int .i64 x), .any, .is (.bool false), .is (.bool false), .is (.string S), .is (.string ((⟨#[115, 46]⟩ : ByteArray) ++ S)), .any, .is (.bool false), .is (.bool false), .is (.bool false), .is (.string S), .is (.string ((⟨#[115, 46, 48]⟩ : ByteArray) ++ S)), .any, .is (.bool false), .is (.bool false), .is (.bool false), .is (.string S), .is (.string ((⟨#[115, 46, 43]⟩ : ByteArray) ++ S)), .any, .is (.bool false), .is (.bool false), .is (.bool false), .is (.string S), .is (.string ((⟨#[83, 46]⟩ : ByteArray) ++ S)), .any, .is (.bool false), .is (.bool false), .is (.bool false), .is (.string S), .is (.string ((⟨#[115, 46]⟩ : ByteArray) ++ S)), .is (.string (((⟨#[115, 46]⟩ : ByteArray) ++ S) ++ (⟨#[32]⟩ : ByteArray))), .any, .is (.bool false), .is (.bool false), .is (.bool false), .is (.string S), .is (.string ((⟨#[115, 46, 32]⟩ : ByteArray) ++ S)), .any, .is (.bool false), .is (.bool false), .is (.bool false), .is (.string S), .any, .is (.bool false), .is (.bool false), .is (.bool false), .is (.string S), .is (.string ((⟨#[115]⟩ : ByteArray) ++ S)), .any, .is (.bool false), .is (.bool false), .is (.bool false), .is (.string S), .is (.string ((⟨#[115, 46]⟩ : ByteArray) ++ S)), .is (.string (((⟨#[115, 46]⟩ : ByteArray) ++ S) ++ (⟨#[48, 48, 48, 48, 48, 48, 48, 48, 48, 48, 48, 48, 48, 48, 48, 48, 48, 48, 48, 48, 48, 48]⟩ : ByteArray))), .any, .is (.bool false), .is (.bool false), .is (.bool false), .is (.string S), .is (.string ((⟨#[115, 46]⟩ : ByteArray) ++ S)), .is (.string (((⟨#[115, 46]⟩ : ByteArray) ++ S) ++ (⟨#[95, 48]⟩ : ByteArray))), .any, .is (.bool false), .is (.bool false), .is (.bool false), .is (.string S), .is (.string ((⟨#[115, 46, 115, 46]⟩ : ByteArray) ++ S)), .any, .is (.bool false), .is (.bool false)]) (fun i => 99) keep_trans keep_grow (valsW.grow) (factsOn_mono _) (by kernel_rfl) (chainOk_paths [[], [], [11], [17], [23], [29], [35], [42], [48], [53], [59], [66], [73]] (by kernel_rfl) (by kernel_rfl) (by decide) (by decide)) (valsW.nil _ _) ?_ ?_
        · refine ⟨?_, ?_, ?_, ?_, ?_, ?_, ?_, ?_, ?_, ?_, ?_, ?_, ?_, ?_, ?_, ?_, ?_, ?_, ?_, ?_, ?_, ?_, ?_, ?_, ?_, ?_, ?_, ?_, ?_, ?_, ?_, ?_, ?_, ?_, ?_, ?_, ?_, ?_, ?_, ?_, ?_, ?_, ?_, ?_, ?_, ?_, ?_, ?_, ?_, ?_, ?_, ?_, ?_, ?_, ?_, ?_, ?_, ?_, ?_, ?_, ?_, ?_, ?_, ?_, ?_, ?_, ?_, ?_, ?_, ?_, ?_, ?_, ?_, ?_, ?_, ?_, ?_, ?_, ?_, trivial⟩
          · refine stageOf_free rfl (fun _ _ _ _ _ _ => wanted_none rfl) ?_
            intro us vals w3 a' ha hle hW hd hv K hK
            have q1 : a'.tmps[1]? = some (.slice (some ⟨w.heap.size, 0, none⟩) 12 12) := slot_old ha (by kernel_rfl) (by kernel_rfl)
            exact step_value (w2 := w3) (by go_simp) (hK _ _ (Grow.refl _) rfl)
          · refine stageOf_free rfl (fun _ _ _ _ _ _ => wanted_none rfl) ?_
            intro us vals w3 a' ha hle hW hd hv K hK
            have q2 : a'.tmps[2]? = some (.int .i64 (k : Int)) := slot_old ha (by kernel_rfl) (by kernel_rfl)
            exact step_value (w2 := w3) (by go_simp) (hK _ _ (Grow.refl _) rfl)
          · refine stageOf_free rfl (fun _ _ _ _ _ _ => wanted_none rfl) ?_
            intro us vals w3 a' ha hle hW hd hv K hK
            obtain ⟨d0, d1, _⟩ := hd
            have q17 : a'.tmps[17]? = some (us 0) := slot_get ha 0 (by kernel_rfl) (by kernel_rfl)
            rw [show us 0 = .slice (some ⟨w.heap.size, 0, none⟩) 12 12 from d0] at q17
            have q18 : a'.tmps[18]? = some (us 1) := slot_get ha 1 (by kernel_rfl) (by kernel_rfl)
            rw [show us 1 = .int .i64 (k : Int) from d1] at q18
            refine step_value (v := .pointer (some ⟨w.heap.size, k, none⟩)) (w2 := w3) ?_ (hK _ _ (Grow.refl _) rfl)
            go_simp
          · refine stageOf_free rfl (fun _ _ _ _ _ _ => wanted_none rfl) ?_
            intro us vals w3 a' ha hle hW hd hv K hK
            obtain ⟨d2, _⟩ := hd
            have q19 : a'.tmps[19]? = some (us 2) := slot_get ha 2 (by kernel_rfl) (by kernel_rfl)
            rw [show us 2 = .pointer (some ⟨w.heap.size, k, none⟩) from d2] at q19
            have hc := hcx w3 hle.toGrow
            refine step_value (v := .int .i64 x) (w2 := w3) ?_ (hK _ _ (Grow.refl _) rfl)
            go_simp
          · refine stageOf_mem (t := 0) rfl ?_
            intro us vals w3 a' ha hle hW hd hv
            obtain ⟨d3, _⟩ := hd
            obtain rfl := List.eq_nil_of_length_eq_zero (Nat.le_zero.1 (show vals.length ≤ 0 from Nat.le_of_eq hv))
            refine ⟨wanted_none rfl, fun K hK => ?_⟩
            have q20 : a'.tmps[20]? = some (us 3) := slot_get ha 3 (by kernel_rfl) (by kernel_rfl)
            rw [show us 3 = .int .i64 x from d3] at q20
            refine step_call (f := 8) (args := #[.int .i64 x]) (by go_simp) ?_
            refine (Name_any w3 x hx1 hx2 (hLr.grow hle.toGrow)).mono ?_
            rintro e w4 ⟨rfl, hg⟩
            exact ⟨_, rfl, hK _ _ (Keep.grow hg) (valsW.snoc hW hv rfl)⟩
          · refine stageOf_free rfl (fun _ _ _ _ _ _ => wanted_none rfl) ?_
            intro us vals w3 a' ha hle hW hd hv K hK
            have q1 : a'.tmps[1]? = some (.slice (some ⟨w.heap.size, 0, none⟩) 12 12) := slot_old ha (by kernel_rfl) (by kernel_rfl)
            exact step_value (w2 := w3) (by go_simp) (hK _ _ (Grow.refl _) rfl)
          · refine stageOf_free rfl (fun _ _ _ _ _ _ => wanted_none rfl) ?_
            intro us vals w3 a' ha hle hW hd hv K hK
            have q2 : a'.tmps[2]? = some (.int .i64 (k : Int)) := slot_old ha (by kernel_rfl) (by kernel_rfl)
            exact step_value (w2 := w3) (by go_simp) (hK _ _ (Grow.refl _) rfl)
          · refine stageOf_free rfl (fun _ _ _ _ _ _ => wanted_none rfl) ?_
            intro us vals w3 a' ha hle hW hd hv K hK
            obtain ⟨d5, d6, _⟩ := hd
            have q22 : a'.tmps[22]? = some (us 5) := slot_get ha 5 (by kernel_rfl) (by kernel_rfl)
            rw [show us 5 = .slice (some ⟨w.heap.size, 0, none⟩) 12 12 from d5] at q22
            have q23 : a'.tmps[23]? = some (us 6) := slot_get ha 6 (by kernel_rfl) (by kernel_rfl)
            rw [show us 6 = .int .i64 (k : Int) from d6] at q23
            refine step_value (v := .pointer (some ⟨w.heap.size, k, none⟩)) (w2 := w3) ?_ (hK _ _ (Grow.refl _) rfl)
            go_simp
          · refine stageOf_free rfl (fun _ _ _ _ _ _ => wanted_none rfl) ?_
            intro us vals w3 a' ha hle hW hd hv K hK
            obtain ⟨d7, _⟩ := hd
            have q24 : a'.tmps[24]? = some (us 7) := slot_get ha 7 (by kernel_rfl) (by kernel_rfl)
            rw [show us 7 = .pointer (some ⟨w.heap.size, k, none⟩) from d7] at q24
            have hc := hcx w3 hle.toGrow
            refine step_value (v := .int .i64 x) (w2 := w3) ?_ (hK _ _ (Grow.refl _) rfl)
            go_simp
          · refine stageOf_mem (t := 1) rfl ?_
            intro us vals w3 a' ha hle hW hd hv
            obtain ⟨d8, _, _⟩ := hd
            obtain ⟨x0, rfl⟩ := List.length_eq_one_iff.1 hv
            refine ⟨wanted_none rfl, fun K hK => ?_⟩
            have q25 : a'.tmps[25]? = some (us 8) := slot_get ha 8 (by kernel_rfl) (by kernel_rfl)
            rw [show us 8 = .int .i64 x from d8] at q25
            refine step_call (f := 9) (args := #[.int .i64 x]) (by go_simp) ?_
            refine (mrName_any w3 x hx1 hx2 (hLr.grow hle.toGrow)).mono ?_
            rintro e w4 ⟨rfl, hg⟩
            exact ⟨_, rfl, hK _ _ (Keep.grow hg) (valsW.snoc hW hv rfl)⟩
          · refine stageOf_free rfl (fun _ _ _ _ _ _ => wanted_none rfl) ?_
            intro us vals w3 a' ha hle hW hd hv K hK
            obtain ⟨d4, d9, _⟩ := hd
            have q21 : a'.tmps[21]? = some (us 4) := slot_get ha 4 (by kernel_rfl) (by kernel_rfl)
            have q26 : a'.tmps[26]? = some (us 9) := slot_get ha 9 (by kernel_rfl) (by kernel_rfl)
            have ea : us 4 = .string ⟨(nameB x).toArray⟩ := valsW.v hW d4
            have eb : us 9 = .string ⟨(nameB x).toArray⟩ := valsW.v hW d9
            rw [ea] at q21
            rw [eb] at q26
            refine step_value (v := .bool false) (w2 := w3) ?_ (hK _ _ (Grow.refl _) rfl)
            go_simp
          · refine stageOf_free rfl (fun _ _ _ _ _ _ => wanted_none rfl) ?_
            intro us vals w3 a' ha hle hW hd hv K hK
            obtain ⟨d10, _, _⟩ := hd
            have q27 : a'.tmps[27]? = some (us 10) := slot_get ha 10 (by kernel_rfl) (by kernel_rfl)
            rw [show us 10 = .bool false from d10] at q27
            exact step_value (w2 := w3) (by go_simp) (hK _ _ (Grow.refl _) rfl)
          · refine stageOf_free rfl (fun us vals w3 a' ha hd => ?_) ?_
            · obtain ⟨d11, _⟩ := hd
              have q : a'.tmps[28]? = some (us 11) := slot_get ha 11 (by kernel_rfl) (by kernel_rfl)
              rw [show us 11 = .bool false from d11] at q
              exact wanted_some rfl rfl q
            intro us vals w3 a' ha hle hW hd hv K hK
            have q3 : a'.tmps[3]? = some (.string S) := slot_old ha (by kernel_rfl) (by kernel_rfl)
            exact step_value (w2 := w3) (by go_simp) (hK _ _ (Grow.refl _) rfl)
          · refine stageOf_free rfl (fun us vals w3 a' ha hd => ?_) ?_
            · obtain ⟨_, d11, _⟩ := hd
              have q : a'.tmps[28]? = some (us 11) := slot_get ha 11 (by kernel_rfl) (by kernel_rfl)
              rw [show us 11 = .bool false from d11] at q
              exact wanted_some rfl rfl q
            intro us vals w3 a' ha hle hW hd hv K hK
            obtain ⟨d12, _, _⟩ := hd
            have q29 : a'.tmps[29]? = some (us 12) := slot_get ha 12 (by kernel_rfl) (by kernel_rfl)
            rw [show us 12 = .string S from d12] at q29
            refine step_value (v := .string ((⟨#[115, 46]⟩ : ByteArray) ++ S)) (w2 := w3) ?_ (hK _ _ (Grow.refl _) rfl)
            go_simp
          · refine stageOf_mem (t := 2) rfl ?_
            intro us vals w3 a' ha hle hW hd hv
            obtain ⟨d13, d11, _, _⟩ := hd
            have qg : a'.tmps[28]? = some (us 11) := slot_get ha 11 (by kernel_rfl) (by kernel_rfl)
            rw [show us 11 = .bool false from d11] at qg
            refine ⟨wanted_some rfl rfl qg, fun K hK => ?_⟩
            have q30 : a'.tmps[30]? = some (us 13) := slot_get ha 13 (by kernel_rfl) (by kernel_rfl)
            rw [show us 13 = .string ((⟨#[115, 46]⟩ : ByteArray) ++ S) from d13] at q30
            refine step_call (f := 10) (args := #[.string ((⟨#[115, 46]⟩ : ByteArray) ++ S)]) (by go_simp) ?_
            refine (name25_any w3 ((⟨#[115, 46]⟩ : ByteArray) ++ S) (by rw [ByteArray.size_append]; exact Nat.le_trans (Nat.add_le_add_left hSl _) (by decide)) (hLr.grow hle.toGrow)).mono ?_
            rintro e w4 ⟨rfl, hg⟩
            exact ⟨_, rfl, hK _ _ (Keep.grow hg) (valsW.snoc hW hv rfl)⟩
          · refine stageOf_free rfl (fun us vals w3 a' ha hd => ?_) ?_
            · obtain ⟨_, d11, _⟩ := hd
              have q : a'.tmps[28]? = some (us 11) := slot_get ha 11 (by kernel_rfl) (by kernel_rfl)
              rw [show us 11 = .bool false from d11] at q
              exact wanted_some rfl rfl q
            intro us vals w3 a' ha hle hW hd hv K hK
            obtain ⟨d14, _, _⟩ := hd
            have q31 : a'.tmps[31]? = some (us 14) := slot_get ha 14 (by kernel_rfl) (by kernel_rfl)
            have ea : us 14 = .bool true := valsW.v hW d14
            rw [ea] at q31
            refine step_value (v := .bool false) (w2 := w3) ?_ (hK _ _ (Grow.refl _) rfl)
            go_simp
          · refine stageOf_free rfl (fun _ _ _ _ _ _ => wanted_none rfl) ?_
            intro us vals w3 a' ha hle hW hd hv K hK
            obtain ⟨d11, d15, _⟩ := hd
            have q28 : a'.tmps[28]? = some (us 11) := slot_get ha 11 (by kernel_rfl) (by kernel_rfl)
            rw [show us 11 = .bool false from d11] at q28
            have q32 : a'.tmps[32]? = some (us 15) := slot_get ha 15 (by kernel_rfl) (by kernel_rfl)
            rw [show us 15 = .bool false from d15] at q32
            refine step_value (v := .bool false) (w2 := w3) ?_ (hK _ _ (Grow.refl _) rfl)
            go_simp
          · refine stageOf_free rfl (fun _ _ _ _ _ _ => wanted_none rfl) ?_
            intro us vals w3 a' ha hle hW hd hv K hK
            obtain ⟨d16, _, _⟩ := hd
            have q33 : a'.tmps[33]? = some (us 16) := slot_get ha 16 (by kernel_rfl) (by kernel_rfl)
            rw [show us 16 = .bool false from d16] at q33
            exact step_value (w2 := w3) (by go_simp) (hK _ _ (Grow.refl _) rfl)
          · refine stageOf_free rfl (fun us vals w3 a' ha hd => ?_) ?_
            · obtain ⟨d17, _⟩ := hd
              have q : a'.tmps[34]? = some (us 17) := slot_get ha 17 (by kernel_rfl) (by kernel_rfl)
              rw [show us 17 = .bool false from d17] at q
              exact wanted_some rfl rfl q
            intro us vals w3 a' ha hle hW hd hv K hK
            have q3 : a'.tmps[3]? = some (.string S) := slot_old ha (by kernel_rfl) (by kernel_rfl)
            exact step_value (w2 := w3) (by go_simp) (hK _ _ (Grow.refl _) rfl)
          · refine stageOf_free rfl (fun us vals w3 a' ha hd => ?_) ?_
            · obtain ⟨_, d17, _⟩ := hd
              have q : a'.tmps[34]? = some (us 17) := slot_get ha 17 (by kernel_rfl) (by kernel_rfl)
              rw [show us 17 = .bool false from d17] at q
              exact wanted_some rfl rfl q
            intro us vals w3 a' ha hle hW hd hv K hK
            obtain ⟨d18, _, _⟩ := hd
            have q35 : a'.tmps[35]? = some (us 18) := slot_get ha 18 (by kernel_rfl) (by kernel_rfl)
            rw [show us 18 = .string S from d18] at q35
            refine step_value (v := .string ((⟨#[115, 46, 48]⟩ : ByteArray) ++ S)) (w2 := w3) ?_ (hK _ _ (Grow.refl _) rfl)
            go_simp
          · refine stageOf_mem (t := 3) rfl ?_
            intro us vals w3 a' ha hle hW hd hv
            obtain ⟨d19, d17, _, _⟩ := hd
            have qg : a'.tmps[34]? = some (us 17) := slot_get ha 17 (by kernel_rfl) (by kernel_rfl)
            rw [show us 17 = .bool false from d17] at qg
            refine ⟨wanted_some rfl rfl qg, fun K hK => ?_⟩
            have q36 : a'.tmps[36]? = some (us 19) := slot_get ha 19 (by kernel_rfl) (by kernel_rfl)
            rw [show us 19 = .string ((⟨#[115, 46, 48]⟩ : ByteArray) ++ S) from d19] at q36
            refine step_call (f := 10) (args := #[.string ((⟨#[115, 46, 48]⟩ : ByteArray) ++ S)]) (by go_simp) ?_
            refine (name25_any w3 ((⟨#[115, 46, 48]⟩ : ByteArray) ++ S) (by rw [ByteArray.size_append]; exact Nat.le_trans (Nat.add_le_add_left hSl _) (by decide)) (hLr.grow hle.toGrow)).mono ?_
            rintro e w4 ⟨rfl, hg⟩
            exact ⟨_, rfl, hK _ _ (Keep.grow hg) (valsW.snoc hW hv rfl)⟩
          · refine stageOf_free rfl (fun us vals w3 a' ha hd => ?_) ?_
            · obtain ⟨_, d17, _⟩ := hd
              have q : a'.tmps[34]? = some (us 17) := slot_get ha 17 (by kernel_rfl) (by kernel_rfl)
              rw [show us 17 = .bool false from d17] at q
              exact wanted_some rfl rfl q
            intro us vals w3 a' ha hle hW hd hv K hK
            obtain ⟨d20, _, _⟩ := hd
            have q37 : a'.tmps[37]? = some (us 20) := slot_get ha 20 (by kernel_rfl) (by kernel_rfl)
            have ea : us 20 = .bool true := valsW.v hW d20
            rw [ea] at q37
            refine step_value (v := .bool false) (w2 := w3) ?_ (hK _ _ (Grow.refl _) rfl)
            go_simp
          · refine stageOf_free rfl (fun _ _ _ _ _ _ => wanted_none rfl) ?_
            intro us vals w3 a' ha hle hW hd hv K hK
            obtain ⟨d17, d21, _⟩ := hd
            have q34 : a'.tmps[34]? = some (us 17) := slot_get ha 17 (by kernel_rfl) (by kernel_rfl)
            rw [show us 17 = .bool false from d17] at q34
            have q38 : a'.tmps[38]? = some (us 21) := slot_get ha 21 (by kernel_rfl) (by kernel_rfl)
            rw [show us 21 = .bool false from d21] at q38
            refine step_value (v := .bool false) (w2 := w3) ?_ (hK _ _ (Grow.refl _) rfl)
            go_simp
          · refine stageOf_free rfl (fun _ _ _ _ _ _ => wanted_none rfl) ?_
            intro us vals w3 a' ha hle hW hd hv K hK
            obtain ⟨d22, _, _⟩ := hd
            have q39 : a'.tmps[39]? = some (us 22) := slot_get ha 22 (by kernel_rfl) (by kernel_rfl)
            rw [show us 22 = .bool false from d22] at q39
            exact step_value (w2 := w3) (by go_simp) (hK _ _ (Grow.refl _) rfl)
          · refine stageOf_free rfl (fun us vals w3 a' ha hd => ?_) ?_
            · obtain ⟨d23, _⟩ := hd
              have q : a'.tmps[40]? = some (us 23) := slot_get ha 23 (by kernel_rfl) (by kernel_rfl)
              rw [show us 23 = .bool false from d23] at q
              exact wanted_some rfl rfl q
            intro us vals w3 a' ha hle hW hd hv K hK
            have q3 : a'.tmps[3]? = some (.string S) := slot_old ha (by kernel_rfl) (by kernel_rfl)
            exact step_value (w2 := w3) (by go_simp) (hK _ _ (Grow.refl _) rfl)
          · refine stageOf_free rfl (fun us vals w3 a' ha hd => ?_) ?_
            · obtain ⟨_, d23, _⟩ := hd
              have q : a'.tmps[40]? = some (us 23) := slot_get ha 23 (by kernel_rfl) (by kernel_rfl)
              rw [show us 23 = .bool false from d23] at q
              exact wanted_some rfl rfl q
            intro us vals w3 a' ha hle hW hd hv K hK
            obtain ⟨d24, _, _⟩ := hd
            have q41 : a'.tmps[41]? = some (us 24) := slot_get ha 24 (by kernel_rfl) (by kernel_rfl)
            rw [show us 24 = .string S from d24] at q41
            refine step_value (v := .string ((⟨#[115, 46, 43]⟩ : ByteArray) ++ S)) (w2 := w3) ?_ (hK _ _ (Grow.refl _) rfl)
            go_simp
          · refine stageOf_mem (t := 4) rfl ?_
            intro us vals w3 a' ha hle hW hd hv
            obtain ⟨d25, d23, _, _⟩ := hd
            have qg : a'.tmps[40]? = some (us 23) := slot_get ha 23 (by kernel_rfl) (by kernel_rfl)
            rw [show us 23 = .bool false from d23] at qg
            refine ⟨wanted_some rfl rfl qg, fun K hK => ?_⟩
            have q42 : a'.tmps[42]? = some (us 25) := slot_get ha 25 (by kernel_rfl) (by kernel_rfl)
            rw [show us 25 = .string ((⟨#[115, 46, 43]⟩ : ByteArray) ++ S) from d25] at q42
            refine step_call (f := 10) (args := #[.string ((⟨#[115, 46, 43]⟩ : ByteArray) ++ S)]) (by go_simp) ?_
            refine (name25_any w3 ((⟨#[115, 46, 43]⟩ : ByteArray) ++ S) (by rw [ByteArray.size_append]; exact Nat.le_trans (Nat.add_le_add_left hSl _) (by decide)) (hLr.grow hle.toGrow)).mono ?_
            rintro e w4 ⟨rfl, hg⟩
            exact ⟨_, rfl, hK _ _ (Keep.grow hg) (valsW.snoc hW hv rfl)⟩
          · refine stageOf_free rfl (fun us vals w3 a' ha hd => ?_) ?_
            · obtain ⟨_, d23, _⟩ := hd
              have q : a'.tmps[40]? = some (us 23) := slot_get ha 23 (by kernel_rfl) (by kernel_rfl)
              rw [show us 23 = .bool false from d23] at q
              exact wanted_some rfl rfl q
            intro us vals w3 a' ha hle hW hd hv K hK
            obtain ⟨d26, _, _⟩ := hd
            have q43 : a'.tmps[43]? = some (us 26) := slot_get ha 26 (by kernel_rfl) (by kernel_rfl)
            have ea : us 26 = .bool true := valsW.v hW d26
            rw [ea] at q43
            refine step_value (v := .bool false) (w2 := w3) ?_ (hK _ _ (Grow.refl _) rfl)
            go_simp
          · refine stageOf_free rfl (fun _ _ _ _ _ _ => wanted_none rfl) ?_
            intro us vals w3 a' ha hle hW hd hv K hK
            obtain ⟨d23, d27, _⟩ := hd
            have q40 : a'.tmps[40]? = some (us 23) := slot_get ha 23 (by kernel_rfl) (by kernel_rfl)
            rw [show us 23 = .bool false from d23] at q40
            have q44 : a'.tmps[44]? = some (us 27) := slot_get ha 27 (by kernel_rfl) (by kernel_rfl)
            rw [show us 27 = .bool false from d27] at q44
            refine step_value (v := .bool false) (w2 := w3) ?_ (hK _ _ (Grow.refl _) rfl)
            go_simp
          · refine stageOf_free rfl (fun _ _ _ _ _ _ => wanted_none rfl) ?_
            intro us vals w3 a' ha hle hW hd hv K hK
            obtain ⟨d28, _, _⟩ := hd
            have q45 : a'.tmps[45]? = some (us 28) := slot_get ha 28 (by kernel_rfl) (by kernel_rfl)
            rw [show us 28 = .bool false from d28] at q45
            exact step_value (w2 := w3) (by go_simp) (hK _ _ (Grow.refl _) rfl)
          · refine stageOf_free rfl (fun us vals w3 a' ha hd => ?_) ?_
            · obtain ⟨d29, _⟩ := hd
              have q : a'.tmps[46]? = some (us 29) := slot_get ha 29 (by kernel_rfl) (by kernel_rfl)
              rw [show us 29 = .bool false from d29] at q
              exact wanted_some rfl rfl q
            intro us vals w3 a' ha hle hW hd hv K hK
            have q3 : a'.tmps[3]? = some (.string S) := slot_old ha (by kernel_rfl) (by kernel_rfl)
            exact step_value (w2 := w3) (by go_simp) (hK _ _ (Grow.refl _) rfl)
          · refine stageOf_free rfl (fun us vals w3 a' ha hd => ?_) ?_
            · obtain ⟨_, d29, _⟩ := hd
              have q : a'.tmps[46]? = some (us 29) := slot_get ha 29 (by kernel_rfl) (by kernel_rfl)
              rw [show us 29 = .bool false from d29] at q
              exact wanted_some rfl rfl q
            intro us vals w3 a' ha hle hW hd hv K hK
            obtain ⟨d30, _, _⟩ := hd
            have q47 : a'.tmps[47]? = some (us 30) := slot_get ha 30 (by kernel_rfl) (by kernel_rfl)
            rw [show us 30 = .string S from d30] at q47
            refine step_value (v := .string ((⟨#[83, 46]⟩ : ByteArray) ++ S)) (w2 := w3) ?_ (hK _ _ (Grow.refl _) rfl)
            go_simp
          · refine stageOf_mem (t := 5) rfl ?_
            intro us vals w3 a' ha hle hW hd hv
            obtain ⟨d31, d29, _, _⟩ := hd
            have qg : a'.tmps[46]? = some (us 29) := slot_get ha 29 (by kernel_rfl) (by kernel_rfl)
            rw [show us 29 = .bool false from d29] at qg
            refine ⟨wanted_some rfl rfl qg, fun K hK => ?_⟩
            have q48 : a'.tmps[48]? = some (us 31) := slot_get ha 31 (by kernel_rfl) (by kernel_rfl)
            rw [show us 31 = .string ((⟨#[83, 46]⟩ : ByteArray) ++ S) from d31] at q48
            refine step_call (f := 10) (args := #[.string ((⟨#[83, 46]⟩ : ByteArray) ++ S)]) (by go_simp) ?_
            refine (name25_any w3 ((⟨#[83, 46]⟩ : ByteArray) ++ S) (by rw [ByteArray.size_append]; exact Nat.le_trans (Nat.add_le_add_left hSl _) (by decide)) (hLr.grow hle.toGrow)).mono ?_
            rintro e w4 ⟨rfl, hg⟩
            exact ⟨_, rfl, hK _ _ (Keep.grow hg) (valsW.snoc hW hv rfl)⟩
          · refine stageOf_free rfl (fun us vals w3 a' ha hd => ?_) ?_
            · obtain ⟨_, d29, _⟩ := hd
              have q : a'.tmps[46]? = some (us 29) := slot_get ha 29 (by kernel_rfl) (by kernel_rfl)
              rw [show us 29 = .bool false from d29] at q
              exact wanted_some rfl rfl q
            intro us vals w3 a' ha hle hW hd hv K hK
            obtain ⟨d32, _, _⟩ := hd
            have q49 : a'.tmps[49]? = some (us 32) := slot_get ha 32 (by kernel_rfl) (by kernel_rfl)
            have ea : us 32 = .bool true := valsW.v hW d32
            rw [ea] at q49
            refine step_value (v := .bool false) (w2 := w3) ?_ (hK _ _ (Grow.refl _) rfl)
            go_simp
          · refine stageOf_free rfl (fun _ _ _ _ _ _ => wanted_none rfl) ?_
            intro us vals w3 a' ha hle hW hd hv K hK
            obtain ⟨d29, d33, _⟩ := hd
            have q46 : a'.tmps[46]? = some (us 29) := slot_get ha 29 (by kernel_rfl) (by kernel_rfl)
            rw [show us 29 = .bool false from d29] at q46
            have q50 : a'.tmps[50]? = some (us 33) := slot_get ha 33 (by kernel_rfl) (by kernel_rfl)
            rw [show us 33 = .bool false from d33] at q50
            refine step_value (v := .bool false) (w2 := w3) ?_ (hK _ _ (Grow.refl _) rfl)
            go_simp
          · refine stageOf_free rfl (fun _ _ _ _ _ _ => wanted_none rfl) ?_
            intro us vals w3 a' ha hle hW hd hv K hK
            obtain ⟨d34, _, _⟩ := hd
            have q51 : a'.tmps[51]? = some (us 34) := slot_get ha 34 (by kernel_rfl) (by kernel_rfl)
            rw [show us 34 = .bool false from d34] at q51
            exact step_value (w2 := w3) (by go_simp) (hK _ _ (Grow.refl _) rfl)
          · refine stageOf_free rfl (fun us vals w3 a' ha hd => ?_) ?_
            · obtain ⟨d35, _⟩ := hd
              have q : a'.tmps[52]? = some (us 35) := slot_get ha 35 (by kernel_rfl) (by kernel_rfl)
              rw [show us 35 = .bool false from d35] at q
              exact wanted_some rfl rfl q
            intro us vals w3 a' ha hle hW hd hv K hK
            have q3 : a'.tmps[3]? = some (.string S) := slot_old ha (by kernel_rfl) (by kernel_rfl)
            exact step_value (w2 := w3) (by go_simp) (hK _ _ (Grow.refl _) rfl)
          · refine stageOf_free rfl (fun us vals w3 a' ha hd => ?_) ?_
            · obtain ⟨_, d35, _⟩ := hd
              have q : a'.tmps[52]? = some (us 35) := slot_get ha 35 (by kernel_rfl) (by kernel_rfl)
              rw [show us 35 = .bool false from d35] at q
              exact wanted_some rfl rfl q
            intro us vals w3 a' ha hle hW hd hv K hK
            obtain ⟨d36, _, _⟩ := hd
            have q53 : a'.tmps[53]? = some (us 36) := slot_get ha 36 (by kernel_rfl) (by kernel_rfl)
            rw [show us 36 = .string S from d36] at q53
            refine step_value (v := .string ((⟨#[115, 46]⟩ : ByteArray) ++ S)) (w2 := w3) ?_ (hK _ _ (Grow.refl _) rfl)
            go_simp
          · refine stageOf_free rfl (fun us vals w3 a' ha hd => ?_) ?_
            · obtain ⟨_, d35, _⟩ := hd
              have q : a'.tmps[52]? = some (us 35) := slot_get ha 35 (by kernel_rfl) (by kernel_rfl)
              rw [show us 35 = .bool false from d35] at q
              exact wanted_some rfl rfl q
            intro us vals w3 a' ha hle hW hd hv K hK
            obtain ⟨d37, _, _⟩ := hd
            have q54 : a'.tmps[54]? = some (us 37) := slot_get ha 37 (by kernel_rfl) (by kernel_rfl)
            rw [show us 37 = .string ((⟨#[115, 46]⟩ : ByteArray) ++ S) from d37] at q54
            refine step_value (v := .string (((⟨#[115, 46]⟩ : ByteArray) ++ S) ++ (⟨#[32]⟩ : ByteArray))) (w2 := w3) ?_ (hK _ _ (Grow.refl _) rfl)
            go_simp
          · refine stageOf_mem (t := 6) rfl ?_
            intro us vals w3 a' ha hle hW hd hv
            obtain ⟨d38, d35, _, _⟩ := hd
            have qg : a'.tmps[52]? = some (us 35) := slot_get ha 35 (by kernel_rfl) (by kernel_rfl)
            rw [show us 35 = .bool false from d35] at qg
            refine ⟨wanted_some rfl rfl qg, fun K hK => ?_⟩
            have q55 : a'.tmps[55]? = some (us 38) := slot_get ha 38 (by kernel_rfl) (by kernel_rfl)
            rw [show us 38 = .string (((⟨#[115, 46]⟩ : ByteArray) ++ S) ++ (⟨#[32]⟩ : ByteArray)) from d38] at q55
            refine step_call (f := 10) (args := #[.string (((⟨#[115, 46]⟩ : ByteArray) ++ S) ++ (⟨#[32]⟩ : ByteArray))]) (by go_simp) ?_
            refine (name25_any w3 (((⟨#[115, 46]⟩ : ByteArray) ++ S) ++ (⟨#[32]⟩ : ByteArray)) (by rw [ByteArray.size_append, ByteArray.size_append]; exact Nat.le_trans (Nat.add_le_add_right (Nat.add_le_add_left hSl _) _) (by decide)) (hLr.grow hle.toGrow)).mono ?_
            rintro e w4 ⟨rfl, hg⟩
            exact ⟨_, rfl, hK _ _ (Keep.grow hg) (valsW.snoc hW hv rfl)⟩
          · refine stageOf_free rfl (fun us vals w3 a' ha hd => ?_) ?_
            · obtain ⟨_, d35, _⟩ := hd
              have q : a'.tmps[52]? = some (us 35) := slot_get ha 35 (by kernel_rfl) (by kernel_rfl)
              rw [show us 35 = .bool false from d35] at q
              exact wanted_some rfl rfl q
            intro us vals w3 a' ha hle hW hd hv K hK
            obtain ⟨d39, _, _⟩ := hd
            have q56 : a'.tmps[56]? = some (us 39) := slot_get ha 39 (by kernel_rfl) (by kernel_rfl)
            have ea : us 39 = .bool true := valsW.v hW d39
            rw [ea] at q56
            refine step_value (v := .bool false) (w2 := w3) ?_ (hK _ _ (Grow.refl _) rfl)
            go_simp
          · refine stageOf_free rfl (fun _ _ _ _ _ _ => wanted_none rfl) ?_
            intro us vals w3 a' ha hle hW hd hv K hK
            obtain ⟨d35, d40, _⟩ := hd
            have q52 : a'.tmps[52]? = some (us 35) := slot_get ha 35 (by kernel_rfl) (by kernel_rfl)
            rw [show us 35 = .bool false from d35] at q52
            have q57 : a'.tmps[57]? = some (us 40) := slot_get ha 40 (by kernel_rfl) (by kernel_rfl)
            rw [show us 40 = .bool false from d40] at q57
            refine step_value (v := .bool false) (w2 := w3) ?_ (hK _ _ (Grow.refl _) rfl)
            go_simp
          · refine stageOf_free rfl (fun _ _ _ _ _ _ => wanted_none rfl) ?_
            intro us vals w3 a' ha hle hW hd hv K hK
            obtain ⟨d41, _, _⟩ := hd
            have q58 : a'.tmps[58]? = some (us 41) := slot_get ha 41 (by kernel_rfl) (by kernel_rfl)
            rw [show us 41 = .bool false from d41] at q58
            exact step_value (w2 := w3) (by go_simp) (hK _ _ (Grow.refl _) rfl)
          · refine stageOf_free rfl (fun us vals w3 a' ha hd => ?_) ?_
            · obtain ⟨d42, _⟩ := hd
              have q : a'.tmps[59]? = some (us 42) := slot_get ha 42 (by kernel_rfl) (by kernel_rfl)
              rw [show us 42 = .bool false from d42] at q
              exact wanted_some rfl rfl q
            intro us vals w3 a' ha hle hW hd hv K hK
            have q3 : a'.tmps[3]? = some (.string S) := slot_old ha (by kernel_rfl) (by kernel_rfl)
            exact step_value (w2 := w3) (by go_simp) (hK _ _ (Grow.refl _) rfl)
          · refine stageOf_free rfl (fun us vals w3 a' ha hd => ?_) ?_
            · obtain ⟨_, d42, _⟩ := hd
              have q : a'.tmps[59]? = some (us 42) := slot_get ha 42 (by kernel_rfl) (by kernel_rfl)
              rw [show us 42 = .bool false from d42] at q
              exact wanted_some rfl rfl q
            intro us vals w3 a' ha hle hW hd hv K hK
            obtain ⟨d43, _, _⟩ := hd
            have q60 : a'.tmps[60]? = some (us 43) := slot_get ha 43 (by kernel_rfl) (by kernel_rfl)
            rw [show us 43 = .string S from d43] at q60
            refine step_value (v := .string ((⟨#[115, 46, 32]⟩ : ByteArray) ++ S)) (w2 := w3) ?_ (hK _ _ (Grow.refl _) rfl)
            go_simp
          · refine stageOf_mem (t := 7) rfl ?_
            intro us vals w3 a' ha hle hW hd hv
            obtain ⟨d44, d42, _, _⟩ := hd
            have qg : a'.tmps[59]? = some (us 42) := slot_get ha 42 (by kernel_rfl) (by kernel_rfl)
            rw [show us 42 = .bool false from d42] at qg
            refine ⟨wanted_some rfl rfl qg, fun K hK => ?_⟩
            have q61 : a'.tmps[61]? = some (us 44) := slot_get ha 44 (by kernel_rfl) (by kernel_rfl)
            rw [show us 44 = .string ((⟨#[115, 46, 32]⟩ : ByteArray) ++ S) from d44] at q61
            refine step_call (f := 10) (args := #[.string ((⟨#[115, 46, 32]⟩ : ByteArray) ++ S)]) (by go_simp) ?_
            refine (name25_any w3 ((⟨#[115, 46, 32]⟩ : ByteArray) ++ S) (by rw [ByteArray.size_append]; exact Nat.le_trans (Nat.add_le_add_left hSl _) (by decide)) (hLr.grow hle.toGrow)).mono ?_
            rintro e w4 ⟨rfl, hg⟩
            exact ⟨_, rfl, hK _ _ (Keep.grow hg) (valsW.snoc hW hv rfl)⟩
          · refine stageOf_free rfl (fun us vals w3 a' ha hd => ?_) ?_
            · obtain ⟨_, d42, _⟩ := hd
              have q : a'.tmps[59]? = some (us 42) := slot_get ha 42 (by kernel_rfl) (by kernel_rfl)
              rw [show us 42 = .bool false from d42] at q
              exact wanted_some rfl rfl q
            intro us vals w3 a' ha hle hW hd hv K hK
            obtain ⟨d45, _, _⟩ := hd
            have q62 : a'.tmps[62]? = some (us 45) := slot_get ha 45 (by kernel_rfl) (by kernel_rfl)
            have ea : us 45 = .bool true := valsW.v hW d45
            rw [ea] at q62
            refine step_value (v := .bool false) (w2 := w3) ?_ (hK _ _ (Grow.refl _) rfl)
            go_simp
          · refine stageOf_free rfl (fun _ _ _ _ _ _ => wanted_none rfl) ?_
            intro us vals w3 a' ha hle hW hd hv K hK
            obtain ⟨d42, d46, _⟩ := hd
            have q59 : a'.tmps[59]? = some (us 42) := slot_get ha 42 (by kernel_rfl) (by kernel_rfl)
            rw [show us 42 = .bool false from d42] at q59
            have q63 : a'.tmps[63]? = some (us 46) := slot_get ha 46 (by kernel_rfl) (by kernel_rfl)
            rw [show us 46 = .bool false from d46] at q63
            refine step_value (v := .bool false) (w2 := w3) ?_ (hK _ _ (Grow.refl _) rfl)
            go_simp
          · refine stageOf_free rfl (fun _ _ _ _ _ _ => wanted_none rfl) ?_
            intro us vals w3 a' ha hle hW hd hv K hK
            obtain ⟨d47, _, _⟩ := hd
            have q64 : a'.tmps[64]? = some (us 47) := slot_get ha 47 (by kernel_rfl) (by kernel_rfl)
            rw [show us 47 = .bool false from d47] at q64
            exact step_value (w2 := w3) (by go_simp) (hK _ _ (Grow.refl _) rfl)
          · refine stageOf_free rfl (fun us vals w3 a' ha hd => ?_) ?_
            · obtain ⟨d48, _⟩ := hd
              have q : a'.tmps[65]? = some (us 48) := slot_get ha 48 (by kernel_rfl) (by kernel_rfl)
              rw [show us 48 = .bool false from d48] at q
              exact wanted_some rfl rfl q
            intro us vals w3 a' ha hle hW hd hv K hK
            have q3 : a'.tmps[3]? = some (.string S) := slot_old ha (by kernel_rfl) (by kernel_rfl)
            exact step_value (w2 := w3) (by go_simp) (hK _ _ (Grow.refl _) rfl)
          · refine stageOf_mem (t := 8) rfl ?_
            intro us vals w3 a' ha hle hW hd hv
            obtain ⟨d49, d48, _, _⟩ := hd
            have qg : a'.tmps[65]? = some (us 48) := slot_get ha 48 (by kernel_rfl) (by kernel_rfl)
            rw [show us 48 = .bool false from d48] at qg
            refine ⟨wanted_some rfl rfl qg, fun K hK => ?_⟩
            have q66 : a'.tmps[66]? = some (us 49) := slot_get ha 49 (by kernel_rfl) (by kernel_rfl)
            rw [show us 49 = .string S from d49] at q66
            refine step_call (f := 10) (args := #[.string S]) (by go_simp) ?_
            refine (name25_any w3 S (by omega) (hLr.grow hle.toGrow)).mono ?_
            rintro e w4 ⟨rfl, hg⟩
            exact ⟨_, rfl, hK _ _ (Keep.grow hg) (valsW.snoc hW hv rfl)⟩
          · refine stageOf_free rfl (fun us vals w3 a' ha hd => ?_) ?_
            · obtain ⟨_, d48, _⟩ := hd
              have q : a'.tmps[65]? = some (us 48) := slot_get ha 48 (by kernel_rfl) (by kernel_rfl)
              rw [show us 48 = .bool false from d48] at q
              exact wanted_some rfl rfl q
            intro us vals w3 a' ha hle hW hd hv K hK
            obtain ⟨d50, _, _⟩ := hd
            have q67 : a'.tmps[67]? = some (us 50) := slot_get ha 50 (by kernel_rfl) (by kernel_rfl)
            have ea : us 50 = .bool true := valsW.v hW d50
            rw [ea] at q67
            refine step_value (v := .bool false) (w2 := w3) ?_ (hK _ _ (Grow.refl _) rfl)
            go_simp
          · refine stageOf_free rfl (fun _ _ _ _ _ _ => wanted_none rfl) ?_
            intro us vals w3 a' ha hle hW hd hv K hK
            obtain ⟨d48, d51, _⟩ := hd
            have q65 : a'.tmps[65]? = some (us 48) := slot_get ha 48 (by kernel_rfl) (by kernel_rfl)
            rw [show us 48 = .bool false from d48] at q65
            have q68 : a'.tmps[68]? = some (us 51) := slot_get ha 51 (by kernel_rfl) (by kernel_rfl)
            rw [show us 51 = .bool false from d51] at q68
            refine step_value (v := .bool false) (w2 := w3) ?_ (hK _ _ (Grow.refl _) rfl)
            go_simp
          · refine stageOf_free rfl (fun _ _ _ _ _ _ => wanted_none rfl) ?_
            intro us vals w3 a' ha hle hW hd hv K hK
            obtain ⟨d52, _, _⟩ := hd
            have q69 : a'.tmps[69]? = some (us 52) := slot_get ha 52 (by kernel_rfl) (by kernel_rfl)
            rw [show us 52 = .bool false from d52] at q69
            exact step_value (w2 := w3) (by go_simp) (hK _ _ (Grow.refl _) rfl)
          · refine stageOf_free rfl (fun us vals w3 a' ha hd => ?_) ?_
            · obtain ⟨d53, _⟩ := hd
              have q : a'.tmps[70]? = some (us 53) := slot_get ha 53 (by kernel_rfl) (by kernel_rfl)
              rw [show us 53 = .bool false from d53] at q
              exact wanted_some rfl rfl q
            intro us vals w3 a' ha hle hW hd hv K hK
            have q3 : a'.tmps[3]? = some (.string S) := slot_old ha (by kernel_rfl) (by kernel_rfl)
            exact step_value (w2 := w3) (by go_simp) (hK _ _ (Grow.refl _) rfl)
          · refine stageOf_free rfl (fun us vals w3 a' ha hd => ?_) ?_
            · obtain ⟨_, d53, _⟩ := hd
              have q : a'.tmps[70]? = some (us 53) := slot_get ha 53 (by kernel_rfl) (by kernel_rfl)
              rw [show us 53 = .bool false from d53] at q
              exact wanted_some rfl rfl q
            intro us vals w3 a' ha hle hW hd hv K hK
            obtain ⟨d54, _, _⟩ := hd
            have q71 : a'.tmps[71]? = some (us 54) := slot_get ha 54 (by kernel_rfl) (by kernel_rfl)
            rw [show us 54 = .string S from d54] at q71
            refine step_value (v := .string ((⟨#[115]⟩ : ByteArray) ++ S)) (w2 := w3) ?_ (hK _ _ (Grow.refl _) rfl)
            go_simp
          · refine stageOf_mem (t := 9) rfl ?_
            intro us vals w3 a' ha hle hW hd hv
            obtain ⟨d55, d53, _, _⟩ := hd
            have qg : a'.tmps[70]? = some (us 53) := slot_get ha 53 (by kernel_rfl) (by kernel_rfl)
            rw [show us 53 = .bool false from d53] at qg
            refine ⟨wanted_some rfl rfl qg, fun K hK => ?_⟩
            have q72 : a'.tmps[72]? = some (us 55) := slot_get ha 55 (by kernel_rfl) (by kernel_rfl)
            rw [show us 55 = .string ((⟨#[115]⟩ : ByteArray) ++ S) from d55] at q72
            refine step_call (f := 10) (args := #[.string ((⟨#[115]⟩ : ByteArray) ++ S)]) (by go_simp) ?_
            refine (name25_any w3 ((⟨#[115]⟩ : ByteArray) ++ S) (by rw [ByteArray.size_append]; exact Nat.le_trans (Nat.add_le_add_left hSl _) (by decide)) (hLr.grow hle.toGrow)).mono ?_
            rintro e w4 ⟨rfl, hg⟩
            exact ⟨_, rfl, hK _ _ (Keep.grow hg) (valsW.snoc hW hv rfl)⟩
          · refine stageOf_free rfl (fun us vals w3 a' ha hd => ?_) ?_
            · obtain ⟨_, d53, _⟩ := hd
              have q : a'.tmps[70]? = some (us 53) := slot_get ha 53 (by kernel_rfl) (by kernel_rfl)
              rw [show us 53 = .bool false from d53] at q
              exact wanted_some rfl rfl q
            intro us vals w3 a' ha hle hW hd hv K hK
            obtain ⟨d56, _, _⟩ := hd
            have q73 : a'.tmps[73]? = some (us 56) := slot_get ha 56 (by kernel_rfl) (by kernel_rfl)
            have ea : us 56 = .bool true := valsW.v hW d56
            rw [ea] at q73
            refine step_value (v := .bool false) (w2 := w3) ?_ (hK _ _ (Grow.refl _) rfl)
            go_simp
          · refine stageOf_free rfl (fun _ _ _ _ _ _ => wanted_none rfl) ?_
            intro us vals w3 a' ha hle hW hd hv K hK
            obtain ⟨d53, d57, _⟩ := hd
            have q70 : a'.tmps[70]? = some (us 53) := slot_get ha 53 (by kernel_rfl) (by kernel_rfl)
            rw [show us 53 = .bool false from d53] at q70
            have q74 : a'.tmps[74]? = some (us 57) := slot_get ha 57 (by kernel_rfl) (by kernel_rfl)
            rw [show us 57 = .bool false from d57] at q74
            refine step_value (v := .bool false) (w2 := w3) ?_ (hK _ _ (Grow.refl _) rfl)
            go_simp
          · refine stageOf_free rfl (fun _ _ _ _ _ _ => wanted_none rfl) ?_
            intro us vals w3 a' ha hle hW hd hv K hK
            obtain ⟨d58, _, _⟩ := hd
            have q75 : a'.tmps[75]? = some (us 58) := slot_get ha 58 (by kernel_rfl) (by kernel_rfl)
            rw [show us 58 = .bool false from d58] at q75
            exact step_value (w2 := w3) (by go_simp) (hK _ _ (Grow.refl _) rfl)
          · refine stageOf_free rfl (fun us vals w3 a' ha hd => ?_) ?_
            · obtain ⟨d59, _⟩ := hd
              have q : a'.tmps[76]? = some (us 59) := slot_get ha 59 (by kernel_rfl) (by kernel_rfl)
              rw [show us 59 = .bool false from d59] at q
              exact wanted_some rfl rfl q
            intro us vals w3 a' ha hle hW hd hv K hK
            have q3 : a'.tmps[3]? = some (.string S) := slot_old ha (by kernel_rfl) (by kernel_rfl)
            exact step_value (w2 := w3) (by go_simp) (hK _ _ (Grow.refl _) rfl)
          · refine stageOf_free rfl (fun us vals w3 a' ha hd => ?_) ?_
            · obtain ⟨_, d59, _⟩ := hd
              have q : a'.tmps[76]? = some (us 59) := slot_get ha 59 (by kernel_rfl) (by kernel_rfl)
              rw [show us 59 = .bool false from d59] at q
              exact wanted_some rfl rfl q
            intro us vals w3 a' ha hle hW hd hv K hK
            obtain ⟨d60, _, _⟩ := hd
            have q77 : a'.tmps[77]? = some (us 60) := slot_get ha 60 (by kernel_rfl) (by kernel_rfl)
            rw [show us 60 = .string S from d60] at q77
            refine step_value (v := .string ((⟨#[115, 46]⟩ : ByteArray) ++ S)) (w2 := w3) ?_ (hK _ _ (Grow.refl _) rfl)
            go_simp
          · refine stageOf_free rfl (fun us vals w3 a' ha hd => ?_) ?_
            · obtain ⟨_, d59, _⟩ := hd
              have q : a'.tmps[76]? = some (us 59) := slot_get ha 59 (by kernel_rfl) (by kernel_rfl)
              rw [show us 59 = .bool false from d59] at q
              exact wanted_some rfl rfl q
            intro us vals w3 a' ha hle hW hd hv K hK
            obtain ⟨d61, _, _⟩ := hd
            have q78 : a'.tmps[78]? = some (us 61) := slot_get ha 61 (by kernel_rfl) (by kernel_rfl)
            rw [show us 61 = .string ((⟨#[115, 46]⟩ : ByteArray) ++ S) from d61] at q78
            refine step_value (v := .string (((⟨#[115, 46]⟩ : ByteArray) ++ S) ++ (⟨#[48, 48, 48, 48, 48, 48, 48, 48, 48, 48, 48, 48, 48, 48, 48, 48, 48, 48, 48, 48, 48, 48]⟩ : ByteArray))) (w2 := w3) ?_ (hK _ _ (Grow.refl _) rfl)
            go_simp
          · refine stageOf_mem (t := 10) rfl ?_
            intro us vals w3 a' ha hle hW hd hv
            obtain ⟨d62, d59, _, _⟩ := hd
            have qg : a'.tmps[76]? = some (us 59) := slot_get ha 59 (by kernel_rfl) (by kernel_rfl)
            rw [show us 59 = .bool false from d59] at qg
            refine ⟨wanted_some rfl rfl qg, fun K hK => ?_⟩
            have q79 : a'.tmps[79]? = some (us 62) := slot_get ha 62 (by kernel_rfl) (by kernel_rfl)
            rw [show us 62 = .string (((⟨#[115, 46]⟩ : ByteArray) ++ S) ++ (⟨#[48, 48, 48, 48, 48, 48, 48, 48, 48, 48, 48, 48, 48, 48, 48, 48, 48, 48, 48, 48, 48, 48]⟩ : ByteArray)) from d62] at q79
            refine step_call (f := 10) (args := #[.string (((⟨#[115, 46]⟩ : ByteArray) ++ S) ++ (⟨#[48, 48, 48, 48, 48, 48, 48, 48, 48, 48, 48, 48, 48, 48, 48, 48, 48, 48, 48, 48, 48, 48]⟩ : ByteArray))]) (by go_simp) ?_
            refine (name25_any w3 (((⟨#[115, 46]⟩ : ByteArray) ++ S) ++ (⟨#[48, 48, 48, 48, 48, 48, 48, 48, 48, 48, 48, 48, 48, 48, 48, 48, 48, 48, 48, 48, 48, 48]⟩ : ByteArray)) (by rw [ByteArray.size_append, ByteArray.size_append]; exact Nat.le_trans (Nat.add_le_add_right (Nat.add_le_add_left hSl _) _) (by decide)) (hLr.grow hle.toGrow)).mono ?_
            rintro e w4 ⟨rfl, hg⟩
            exact ⟨_, rfl, hK _ _ (Keep.grow hg) (valsW.snoc hW hv rfl)⟩
          · refine stageOf_free rfl (fun us vals w3 a' ha hd => ?_) ?_
            · obtain ⟨_, d59, _⟩ := hd
              have q : a'.tmps[76]? = some (us 59) := slot_get ha 59 (by kernel_rfl) (by kernel_rfl)
              rw [show us 59 = .bool false from d59] at q
              exact wanted_some rfl rfl q
            intro us vals w3 a' ha hle hW hd hv K hK
            obtain ⟨d63, _, _⟩ := hd
            have q80 : a'.tmps[80]? = some (us 63) := slot_get ha 63 (by kernel_rfl) (by kernel_rfl)
            have ea : us 63 = .bool true := valsW.v hW d63
            rw [ea] at q80
            refine step_value (v := .bool false) (w2 := w3) ?_ (hK _ _ (Grow.refl _) rfl)
            go_simp
          · refine stageOf_free rfl (fun _ _ _ _ _ _ => wanted_none rfl) ?_
            intro us vals w3 a' ha hle hW hd hv K hK
            obtain ⟨d59, d64, _⟩ := hd
            have q76 : a'.tmps[76]? = some (us 59) := slot_get ha 59 (by kernel_rfl) (by kernel_rfl)
            rw [show us 59 = .bool false from d59] at q76
            have q81 : a'.tmps[81]? = some (us 64) := slot_get ha 64 (by kernel_rfl) (by kernel_rfl)
            rw [show us 64 = .bool false from d64] at q81
            refine step_value (v := .bool false) (w2 := w3) ?_ (hK _ _ (Grow.refl _) rfl)
            go_simp
          · refine stageOf_free rfl (fun _ _ _ _ _ _ => wanted_none rfl) ?_
            intro us vals w3 a' ha hle hW hd hv K hK
            obtain ⟨d65, _, _⟩ := hd
            have q82 : a'.tmps[82]? = some (us 65) := slot_get ha 65 (by kernel_rfl) (by kernel_rfl)
            rw [show us 65 = .bool false from d65] at q82
            exact step_value (w2 := w3) (by go_simp) (hK _ _ (Grow.refl _) rfl)
          · refine stageOf_free rfl (fun us vals w3 a' ha hd => ?_) ?_
            · obtain ⟨d66, _⟩ := hd
              have q : a'.tmps[83]? = some (us 66) := slot_get ha 66 (by kernel_rfl) (by kernel_rfl)
              rw [show us 66 = .bool false from d66] at q
              exact wanted_some rfl rfl q
            intro us vals w3 a' ha hle hW hd hv K hK
            have q3 : a'.tmps[3]? = some (.string S) := slot_old ha (by kernel_rfl) (by kernel_rfl)
            exact step_value (w2 := w3) (by go_simp) (hK _ _ (Grow.refl _) rfl)
          · refine stageOf_free rfl (fun us vals w3 a' ha hd => ?_) ?_
            · obtain ⟨_, d66, _⟩ := hd
              have q : a'.tmps[83]? = some (us 66) := slot_get ha 66 (by kernel_rfl) (by kernel_rfl)
              rw [show us 66 = .bool false from d66] at q
              exact wanted_some rfl rfl q
            intro us vals w3 a' ha hle hW hd hv K hK
            obtain ⟨d67, _, _⟩ := hd
            have q84 : a'.tmps[84]? = some (us 67) := slot_get ha 67 (by kernel_rfl) (by kernel_rfl)
            rw [show us 67 = .string S from d67] at q84
            refine step_value (v := .string ((⟨#[115, 46]⟩ : ByteArray) ++ S)) (w2 := w3) ?_ (hK _ _ (Grow.refl _) rfl)
            go_simp
          · refine stageOf_free rfl (fun us vals w3 a' ha hd => ?_) ?_
            · obtain ⟨_, d66, _⟩ := hd
              have q : a'.tmps[83]? = some (us 66) := slot_get ha 66 (by kernel_rfl) (by kernel_rfl)
              rw [show us 66 = .bool false from d66] at q
              exact wanted_some rfl rfl q
            intro us vals w3 a' ha hle hW hd hv K hK
            obtain ⟨d68, _, _⟩ := hd
            have q85 : a'.tmps[85]? = some (us 68) := slot_get ha 68 (by kernel_rfl) (by kernel_rfl)
            rw [show us 68 = .string ((⟨#[115, 46]⟩ : ByteArray) ++ S) from d68] at q85
            refine step_value (v := .string (((⟨#[115, 46]⟩ : ByteArray) ++ S) ++ (⟨#[95, 48]⟩ : ByteArray))) (w2 := w3) ?_ (hK _ _ (Grow.refl _) rfl)
            go_simp
          · refine stageOf_mem (t := 11) rfl ?_
            intro us vals w3 a' ha hle hW hd hv
            obtain ⟨d69, d66, _, _⟩ := hd
            have qg : a'.tmps[83]? = some (us 66) := slot_get ha 66 (by kernel_rfl) (by kernel_rfl)
            rw [show us 66 = .bool false from d66] at qg
            refine ⟨wanted_some rfl rfl qg, fun K hK => ?_⟩
            have q86 : a'.tmps[86]? = some (us 69) := slot_get ha 69 (by kernel_rfl) (by kernel_rfl)
            rw [show us 69 = .string (((⟨#[115, 46]⟩ : ByteArray) ++ S) ++ (⟨#[95, 48]⟩ : ByteArray)) from d69] at q86
            refine step_call (f := 10) (args := #[.string (((⟨#[115, 46]⟩ : ByteArray) ++ S) ++ (⟨#[95, 48]⟩ : ByteArray))]) (by go_simp) ?_
            refine (name25_any w3 (((⟨#[115, 46]⟩ : ByteArray) ++ S) ++ (⟨#[95, 48]⟩ : ByteArray)) (by rw [ByteArray.size_append, ByteArray.size_append]; exact Nat.le_trans (Nat.add_le_add_right (Nat.add_le_add_left hSl _) _) (by decide)) (hLr.grow hle.toGrow)).mono ?_
            rintro e w4 ⟨rfl, hg⟩
            exact ⟨_, rfl, hK _ _ (Keep.grow hg) (valsW.snoc hW hv rfl)⟩
          · refine stageOf_free rfl (fun us vals w3 a' ha hd => ?_) ?_
            · obtain ⟨_, d66, _⟩ := hd
              have q : a'.tmps[83]? = some (us 66) := slot_get ha 66 (by kernel_rfl) (by kernel_rfl)
              rw [show us 66 = .bool false from d66] at q
              exact wanted_some rfl rfl q
            intro us vals w3 a' ha hle hW hd hv K hK
            obtain ⟨d70, _, _⟩ := hd
            have q87 : a'.tmps[87]? = some (us 70) := slot_get ha 70 (by kernel_rfl) (by kernel_rfl)
            have ea : us 70 = .bool true := valsW.v hW d70
            rw [ea] at q87
            refine step_value (v := .bool false) (w2 := w3) ?_ (hK _ _ (Grow.refl _) rfl)
            go_simp
          · refine stageOf_free rfl (fun _ _ _ _ _ _ => wanted_none rfl) ?_
            intro us vals w3 a' ha hle hW hd hv K hK
            obtain ⟨d66, d71, _⟩ := hd
            have q83 : a'.tmps[83]? = some (us 66) := slot_get ha 66 (by kernel_rfl) (by kernel_rfl)
            rw [show us 66 = .bool false from d66] at q83
            have q88 : a'.tmps[88]? = some (us 71) := slot_get ha 71 (by kernel_rfl) (by kernel_rfl)
            rw [show us 71 = .bool false from d71] at q88
            refine step_value (v := .bool false) (w2 := w3) ?_ (hK _ _ (Grow.refl _) rfl)
            go_simp
          · refine stageOf_free rfl (fun _ _ _ _ _ _ => wanted_none rfl) ?_
            intro us vals w3 a' ha hle hW hd hv K hK
            obtain ⟨d72, _, _⟩ := hd
            have q89 : a'.tmps[89]? = some (us 72) := slot_get ha 72 (by kernel_rfl) (by kernel_rfl)
            rw [show us 72 = .bool false from d72] at q89
            exact step_value (w2 := w3) (by go_simp) (hK _ _ (Grow.refl _) rfl)
          · refine stageOf_free rfl (fun us vals w3 a' ha hd => ?_) ?_
            · obtain ⟨d73, _⟩ := hd
              have q : a'.tmps[90]? = some (us 73) := slot_get ha 73 (by kernel_rfl) (by kernel_rfl)
              rw [show us 73 = .bool false from d73] at q
              exact wanted_some rfl rfl q
            intro us vals w3 a' ha hle hW hd hv K hK
            have q3 : a'.tmps[3]? = some (.string S) := slot_old ha (by kernel_rfl) (by kernel_rfl)
            exact step_value (w2 := w3) (by go_simp) (hK _ _ (Grow.refl _) rfl)
          · refine stageOf_free rfl (fun us vals w3 a' ha hd => ?_) ?_
            · obtain ⟨_, d73, _⟩ := hd
              have q : a'.tmps[90]? = some (us 73) := slot_get ha 73 (by kernel_rfl) (by kernel_rfl)
              rw [show us 73 = .bool false from d73] at q
              exact wanted_some rfl rfl q
            intro us vals w3 a' ha hle hW hd hv K hK
            obtain ⟨d74, _, _⟩ := hd
            have q91 : a'.tmps[91]? = some (us 74) := slot_get ha 74 (by kernel_rfl) (by kernel_rfl)
            rw [show us 74 = .string S from d74] at q91
            refine step_value (v := .string ((⟨#[115, 46, 115, 46]⟩ : ByteArray) ++ S)) (w2 := w3) ?_ (hK _ _ (Grow.refl _) rfl)
            go_simp
          · refine stageOf_mem (t := 12) rfl ?_
            intro us vals w3 a' ha hle hW hd hv
            obtain ⟨d75, d73, _, _⟩ := hd
            have qg : a'.tmps[90]? = some (us 73) := slot_get ha 73 (by kernel_rfl) (by kernel_rfl)
            rw [show us 73 = .bool false from d73] at qg
            refine ⟨wanted_some rfl rfl qg, fun K hK => ?_⟩
            have q92 : a'.tmps[92]? = some (us 75) := slot_get ha 75 (by kernel_rfl) (by kernel_rfl)
            rw [show us 75 = .string ((⟨#[115, 46, 115, 46]⟩ : ByteArray) ++ S) from d75] at q92
            refine step_call (f := 10) (args := #[.string ((⟨#[115, 46, 115, 46]⟩ : ByteArray) ++ S)]) (by go_simp) ?_
            refine (name25_any w3 ((⟨#[115, 46, 115, 46]⟩ : ByteArray) ++ S) (by rw [ByteArray.size_append]; exact Nat.le_trans (Nat.add_le_add_left hSl _) (by decide)) (hLr.grow hle.toGrow)).mono ?_
            rintro e w4 ⟨rfl, hg⟩
            exact ⟨_, rfl, hK _ _ (Keep.grow hg) (valsW.snoc hW hv rfl)⟩
          · refine stageOf_free rfl (fun us vals w3 a' ha hd => ?_) ?_
            · obtain ⟨_, d73, _⟩ := hd
              have q : a'.tmps[90]? = some (us 73) := slot_get ha 73 (by kernel_rfl) (by kernel_rfl)
              rw [show us 73 = .bool false from d73] at q
              exact wanted_some rfl rfl q
            intro us vals w3 a' ha hle hW hd hv K hK
            obtain ⟨d76, _, _⟩ := hd
            have q93 : a'.tmps[93]? = some (us 76) := slot_get ha 76 (by kernel_rfl) (by kernel_rfl)
            have ea : us 76 = .bool true := valsW.v hW d76
            rw [ea] at q93
            refine step_value (v := .bool false) (w2 := w3) ?_ (hK _ _ (Grow.refl _) rfl)
            go_simp
          · refine stageOf_free rfl (fun _ _ _ _ _ _ => wanted_none rfl) ?_
            intro us vals w3 a' ha hle hW hd hv K hK
            obtain ⟨d73, d77, _⟩ := hd
            have q90 : a'.tmps[90]? = some (us 73) := slot_get ha 73 (by kernel_rfl) (by kernel_rfl)
            rw [show us 73 = .bool false from d73] at q90
            have q94 : a'.tmps[94]? = some (us 77) := slot_get ha 77 (by kernel_rfl) (by kernel_rfl)
            rw [show us 77 = .bool false from d77] at q94
            refine step_value (v := .bool false) (w2 := w3) ?_ (hK _ _ (Grow.refl _) rfl)
            go_simp
        · intro us vals w3 hle hvl hV _ hf
          exact hMx _ _ (Met.intro (hJx _ _ ⟨us 0, us 1, us 2, us 3, us 4, us 5, us 6, us 7, us 8, us 9, us 10, us 11, us 12, us 13, us 14, us 15, us 16, us 17, us 18, us 19, us 20, us 21, us 22, us 23, us 24, us 25, us 26, us 27, us 28, us 29, us 30, us 31, us 32, us 33, us 34, us 35, us 36, us 37, us 38, us 39, us 40, us 41, us 42, us 43, us 44, us 45, us 46, us 47, us 48, us 49, us 50, us 51, us 52, us 53, us 54, us 55, us 56, us 57, us 58, us 59, us 60, us 61, us 62, us 63, us 64, us 65, us 66, us 67, us 68, us 69, us 70, us 71, us 72, us 73, us 74, us 75, us 76, us 77, us 78, ⟨hf 78 (by decide) rfl, hle.toGrow⟩, by kernel_rfl⟩))
      case rest =>
        obtain ⟨rfl, hg2⟩ := hcut
        have HG3 := Lib.hid (HG2.out.trans hg2)
        clear hg2
        go_wp2
        go_roundw
        case rel => exact ⟨k + 1, by omega, by go_num, HG3⟩
        case measure => simp [intOf]; omega
    · obtain rfl : k = 12 := by omega
      have HL := Lib.hid hL
      go_wp2
      go_loopw [4] (fun v4 ws => ∃ k : Nat, k ≤ 256 ∧ v4 = .int .i64 (k : Int) ∧ Hid (Grow W ws)) (fun v4 _ => 256 - (intOf v4).toNat)
      case atStart => exact ⟨0, by omega, rfl, HG⟩
      case round =>
        clear HG hL HL
        obtain ⟨k, hk, rfl, HG⟩ := hrel
        have hL := hLW.grow HG.out
        by_cases hlt : k < 256
        · obtain ⟨C, hC⟩ : ∃ C, C = strOfNums [k] := ⟨_, rfl⟩
          have hCl : C.size = 1 := by rw [hC]; rfl
          have hcv : ∀ W' : World, (convert 25 9 (.slice (some ⟨W'.heap.size, 0, none⟩) 1 1)).run Tryd.prog (W'.alloc (.cells #[.int .u8 (k : Int)] 5)) = .ok (.string C) (W'.alloc (.cells #[.int .u8 (k : Int)] 5)) := fun W' => by
            rw [hC]
            exact run_convert_bytes_arg (P := Tryd.prog) (W'.alloc (.cells #[.int .u8 (k : Int)] 5)) 25 5 Tryd.underlying25 Tryd.underlying5 W'.heap.size 0 1 1 [k] rfl (fun i hi => by
              match i, hi with
              | 0, _ => exact (Blk.new W' 5 #[.int .u8 (k : Int)]).cell 0) 9 Tryd.underlying9
          have hz2 : ¬ 9223372036854775807 < 2 + C.size := by omega
          have hz3 : ¬ 9223372036854775807 < 3 + C.size := by omega
          clear hC
          go_wp2_with fail
          refine (name25_any _ C (by omega) (hL.grow (Grow.alloc _ _))).mono ?_
          rintro e w1 ⟨rfl, hg1⟩
          have HG1 := Lib.hid ((HG.out.trans (Grow.alloc _ _)).trans hg1)
          have hL1 := hLW.grow HG1.out
          clear hg1 HG hL
          go_wp2_with fail
          refine (name25_any _ _ (by rw [ByteArray.size_append, hCl]; decide) (hL1.grow (Grow.alloc _ _))).mono ?_
          rintro e w2 ⟨rfl, hg2⟩
          have HG2 := Lib.hid ((HG1.out.trans (Grow.alloc _ _)).trans hg2)
          have hL2 := hLW.grow HG2.out
          clear hg2 HG1 hL1
          go_wp2_with fail
          refine (name25_any _ _ (by rw [ByteArray.size_append, hCl]; decide) (hL2.grow (Grow.alloc _ _))).mono ?_
          rintro e w3 ⟨rfl, hg3⟩
          have HG3 := Lib.hid ((HG2.out.trans (Grow.alloc _ _)).trans hg3)
          clear hg3 HG2 hL2
          go_wp2
          go_roundw
          case rel =>
            repeat apply Exists.intro
            refine And.intro ?relr ?relf
            case relf => exact rfl
            case relr => exact ⟨k + 1, by omega, by go_num, HG3⟩
          case measure => simp [intOf]; omega
        · obtain rfl : k = 256 := by omega
          go_wp2_with fail
          refine (name25_any _ ⟨#[]⟩ (by decide) hL).mono ?_
          rintro e w1 ⟨rfl, hg1⟩
          have HG1 := Lib.hid (HG.out.trans hg1)
          have hL1 := hLW.grow HG1.out
          clear hg1 HG hL
          go_wp2_with fail
          refine (name25_any _ ⟨#[109]⟩ (by decide) hL1).mono ?_
          rintro e w2 ⟨rfl, hg2⟩
          have HG2 := Lib.hid (HG1.out.trans hg2)
          have hL2 := hLW.grow HG2.out
          clear hg2 HG1 hL1
          go_wp2_with fail
          refine (name25_any _ ⟨#[109, 46, 110, 101, 119]⟩ (by decide) hL2).mono ?_
          rintro e w3 ⟨rfl, hg3⟩
          have HG3 := Lib.hid (HG2.out.trans hg3)
          have hL3 := hLW.grow HG3.out
          clear hg3 HG2 hL2
          go_wp2_with fail
          refine (name25_any _ ⟨#[115, 46]⟩ (by decide) hL3).mono ?_
          rintro e w4 ⟨rfl, hg4⟩
          have HG4 := Lib.hid (HG3.out.trans hg4)
          have hL4 := hLW.grow HG4.out
          clear hg4 HG3 hL3
          go_wp2_with fail
          refine (awake25_any _ hL4).mono ?_
          rintro e w5 ⟨rfl, hg5⟩
          go_wp2
          go_ret
          exact ⟨rfl, (hG.trans HG4.out).trans hg5⟩
end Go.Proofs.YtcimkoehcdfjdaaDoor
