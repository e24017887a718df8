/-
  The walk of mudlarklaw21.NearStands.
-/
import Derived.BigQuiet
import Derived.IntWalk
import Derived.Test.YtamdejidkgnaeaaNearLaw
import Derived.Test.YtamdejidkgnaeaaNearAwake
namespace Go.Proofs.Ytamdejidkgnaeaa
open Go.RowKit NearM GramM
set_option linter.unusedVariables false
/-- the numbers of the documents -/
def InAt (W : World) (g nd : Nat) (C : Nat → Nat) : Prop := Blk W g 3 ((List.range nd).map fun d => Value.int .i64 (C d : Int)).toArray
section
variable {W W' : World} {g nd : Nat} {C C' : Nat → Nat}
theorem InAt.cell (h : InAt W g nd C) {d : Nat} (hd : d < nd) : W.cell? ⟨g, d, none⟩ = some (.int .i64 (C d : Int)) := by
  rw [Blk.cell h]
  simp [hd]
theorem InAt.congr (h : InAt W g nd C) (hc : ∀ d, d < nd → C d = C' d) : InAt W g nd C' := by
  unfold InAt at h ⊢
  rw [← (List.map_congr_left fun d hd => by rw [hc d (List.mem_range.1 hd)] : (List.range nd).map (fun d => Value.int .i64 (C d : Int)) = (List.range nd).map fun d => Value.int .i64 (C' d : Int))]
  exact h
theorem InAt.put (h : InAt W g nd C) {d : Nat} (hd : d < nd) : InAt (W.setCell ⟨g, d, none⟩ (.int .i64 ((C d : Int) + 1))) g nd (fun x => if x = d then C d + 1 else C x) := by
  have h1 := Blk.set h d (.int .i64 ((C d : Int) + 1))
  unfold InAt
  have e : ((List.range nd).map fun x => Value.int .i64 ((if x = d then C d + 1 else C x : Nat) : Int)).toArray = ((List.range nd).map fun x => Value.int .i64 (C x : Int)).toArray.setIfInBounds d (.int .i64 ((C d : Int) + 1)) := by
    refine Array.ext_getElem? fun i => ?_
    rw [Array.getElem?_setIfInBounds]
    by_cases e : d = i
    · subst e
      simp [hd]
    · rw [if_neg e]
      have e2 : ¬ i = d := fun h => e h.symm
      by_cases hi : i < nd
      · simp [hi, e2]
      · simp [hi]
  rw [e]
  exact h1
theorem InAt.grow (h : InAt W g nd C) (hg : Grow W W') : InAt W' g nd C := Blk.below h hg h.lt
end
/-- how many documents up to here have all runs -/
def cntA (docs runs : List (List UInt8)) (d : Nat) : Nat := ((List.range d).filter (allB docs runs)).length
theorem cntA_yes {docs runs : List (List UInt8)} {d : Nat} (h : allB docs runs d = true) : cntA docs runs (d + 1) = cntA docs runs d + 1 := by
  unfold cntA
  rw [List.range_succ, List.filter_append, List.filter_cons_of_pos h, List.length_append]
  rfl
theorem cntA_no {docs runs : List (List UInt8)} {d : Nat} (h : allB docs runs d = false) : cntA docs runs (d + 1) = cntA docs runs d := by
  unfold cntA
  rw [List.range_succ, List.filter_append, List.filter_cons_of_neg (by rw [h]; simp), List.filter_nil, List.append_nil]
theorem range_split : ∀ {n d : Nat}, d < n → ∃ suf, List.range n = List.range d ++ d :: suf
  | 0, d, h => by omega
  | n + 1, d, h => by
    rw [List.range_succ]
    rcases Nat.lt_or_ge d n with h1 | h1
    · obtain ⟨suf, e⟩ := range_split h1
      exact ⟨suf ++ [n], by rw [e]; simp⟩
    · obtain rfl : d = n := by omega
      exact ⟨[], rfl⟩
theorem all_here {docs runs : List (List UInt8)} {d : Nat} (hd : d < docs.length) (h : allB docs runs d = true) : (allD docs runs)[cntA docs runs d]? = some d := by
  obtain ⟨suf, e⟩ := range_split hd
  unfold allD cntA
  rw [e]
  exact filter_at h
theorem allB_iff {docs runs : List (List UInt8)} {d : Nat} : allB docs runs d = true ↔ 0 < runs.length ∧ inC docs runs d = runs.length := by
  unfold allB
  rw [Bool.and_eq_true, decide_eq_true_eq, decide_eq_true_eq]
  constructor
  · rintro ⟨h1, h2⟩
    exact ⟨List.length_pos_iff.2 h1, h2⟩
  · rintro ⟨h1, h2⟩
    exact ⟨List.length_pos_iff.1 h1, h2⟩
set_option maxRecDepth 100000 in
set_option maxHeartbeats 8000000 in
theorem nstands_walk (w : World) (A0 A1 : Option Addr) (n c nr cr : Nat) (docs : List (List UInt8)) (rs : List ByteArray) (hR : RowsAt w w.heap.size A0 n docs) (hr : ReadsAt w w.heap.size 1 A1 nr (rs.map Value.string)) (hn : n ≤ 140737488351232) (hnr : nr ≤ 281474976710656) (hl : ∀ b ∈ docs, b.length ≤ 140737488351232) (hs : ∀ s ∈ rs, s.size ≤ 281474976710656) :
    Calls Try.prog 3 #[.slice A0 n c, .slice A1 nr cr] w fun e w' => e = .returned (.bool true) ∧ Below w.heap.size w w' := by
  have intsTy : AppTy Try.prog 29 3 (.int .i64 0) 1 8 := AppTy.mk' Try.underlying29 (by kernel_rfl) rfl (by decide)
  have bytesTy : AppTy Try.prog 26 5 (.int .u8 0) 1 1 := AppTy.mk' Try.underlying26 (by kernel_rfl) rfl (by decide)
  have Hlen := Lib.hid hR.1
  have Hrl := Lib.hid (show rs.length = nr by have := hr.1; simpa using this)
  have HR := Lib.hid (show ∀ W, Grow w W → RowsAt W w.heap.size A0 n docs from fun W hg => hR.below hg)
  have Hr := Lib.hid (show ∀ W, Grow w W → ReadsAt W w.heap.size 1 A1 nr (rs.map Value.string) from fun W hg => hr.below hg)
  have Hl := Lib.hid hl
  have Hs := Lib.hid hs
  have Htx := Lib.hid (fun W (hg : Grow w W) => textsOf_any W w.heap.size A1 nr cr rs (hr.below hg) hs hnr)
  clear hR hr hl hs
  go_enter Try.func3, Try.ntmps3
  go_wp2_with fail
  refine (awake21_any w).mono ?_
  rintro e w1 ⟨rfl, hg1⟩
  have Hg1 := Lib.hid hg1
  have Htx1 := Lib.hid (Htx.out w1 hg1)
  clear hg1 Htx
  go_wp2_with fail
  refine Htx1.out.mono ?_
  rintro e w2 ⟨r, rfl, hr6, hrb, rfl⟩
  have Hr6 := Lib.hid hr6
  have Hg2 := Hg1
  obtain ⟨T, hT⟩ : ∃ T : Nat → Nat, T = fun k => n + r + totD (docs.take k) := ⟨_, rfl⟩
  have HT0 := Lib.hid (show T 0 = n + r by rw [hT]; simp [totD])
  have HTs := Lib.hid (show ∀ k b, docs[k]? = some b → T (k + 1) = T k + b.length from fun k b h => by rw [hT]; show n + r + totD _ = n + r + totD _ + _; rw [totD_snoc h]; omega)
  have HTn := Lib.hid (show T n = n + r + totD docs by rw [hT]; show n + r + totD (docs.take n) = _; rw [← Hlen.out, List.take_length])
  clear hT hr6 Htx1
  go_wp2_with fail
  go_loopw [5, 6] (fun v5 v6 wr => ∃ k : Nat, k ≤ n ∧ v5 = .int .i64 (T k : Nat) ∧ v6 = .int .i64 (k : Int) ∧ T k ≤ 3096224743817216 ∧ wr = w2) (fun _ v6 _ => n - (intOf v6).toNat)
  case atStart => exact ⟨0, by omega, by rw [HT0.out]; go_num, rfl, by rw [HT0.out]; omega, rfl⟩
  case round =>
    obtain ⟨k, hk, rfl, rfl, hTb, hwr⟩ := hrel
    subst hwr
    by_cases h6 : T k ≤ 600
    · have d2 : decide ((T k : Int) ≤ 600) = true := decide_eq_true (by omega)
      have d3 : decide ((T k : Int) > 600) = false := decide_eq_false (by omega)
      by_cases hlt : k < n
      · have d1 : decide ((k : Int) < (n : Int)) = true := decide_eq_true (by omega)
        obtain ⟨b, hb⟩ : ∃ b, docs[k]? = some b := ⟨_, List.getElem?_eq_getElem (by rw [Hlen.out]; exact hlt)⟩
        have HTk := Lib.hid (HTs.out k b hb)
        have hbl := Hl.out b (List.mem_of_getElem? hb)
        obtain ⟨b1, o1, A2, n2, c2, rfl, hb1, hcb, -, -, hbb⟩ := (HR.out wr Hg2.out).get hb
        have hn2 := hbb.len
        rw [hn2] at hbl
        have HTk2 := Lib.hid (show T (k + 1) = T k + n2 by rw [HTk.out, hn2])
        clear hb hbb HTk hn2
        go_wp2_with fail
        go_roundw
        case rel => exact ⟨k + 1, by omega, by rw [HTk2.out]; go_num, by go_num, by rw [HTk2.out]; omega, by first | trivial | rfl⟩
        case measure => simp [intOf]; omega
      · have d1 : decide ((k : Int) < (n : Int)) = false := decide_eq_false (by omega)
        obtain rfl : k = n := by omega
        by_cases h10 : nr ≤ 10
        · have d4 : decide ((nr : Int) > 10) = false := decide_eq_false (by omega)
          by_cases h50 : k ≤ 50
          · have d5 : decide ((k : Int) > 50) = false := decide_eq_false (by omega)
            have htot : totD docs ≤ 600 := by have := HTn.out; omega
            have hrs : totT rs ≤ 600 := by
              have h1 := HTn.out
              have h2 := Hr6.out (by omega)
              omega
            have Htot := Lib.hid htot
            have Hmk := Lib.hid (pMake_any wr w.heap.size A0 k c docs (HR.out wr Hg2.out) Hg2.out.size (by omega) (fun i j hi hj => Nat.le_trans (preP_le hj) (by omega)) (fun b hb => Nat.le_trans (mem_totD hb) (by omega)))
            have Hrs := Lib.hid (show ∀ s ∈ rs, s.size ≤ 600 from fun s hs => Nat.le_trans (totT_mem hs).1 hrs)
            clear htot hrs
            go_wp2_with fail
            refine Hmk.out.mono ?_
            rintro e w3 ⟨A3, m3, c3, ps, rfl, hps, hg3, hnd, hpl, hall, hm3⟩
            have HPs := Lib.hid (show PsOf docs ps from ⟨hnd, hpl, hall⟩)
            have Hps := Lib.hid (show ∀ W, Grow w3 W → PostsAt W w3.heap.size A3 m3 ps from fun W hg => hps.grow hg (Nat.le_refl _))
            have Hok := Lib.hid (show ∀ p ∈ ps, p.2.length ≤ 1000000000 ∧ Up p.2 ∧ ∀ x ∈ p.2, x.2 ≤ 100000000 from fun p hp => by
              rw [hpl p hp]
              have := Htot.out
              exact ⟨Nat.le_trans (plOf_len docs _) (by omega), up_plOf docs _, fun x hx => Nat.le_trans (plOf_lt hx).2 (by omega)⟩)
            have Hdoc := Lib.hid (show ∀ p ∈ ps, ∀ x ∈ p.2, x.1 ≤ 1000000 from fun p hp x hx => by
              rw [hpl p hp] at hx
              have := Hlen.out
              exact Nat.le_trans (plOf_lt hx).1 (by omega))
            have Hg3 := Lib.hid (show Grow w w3 from Below.trans Hg2.out (Below.mono hg3 Hg2.out.size))
            clear hps hg3 hnd hpl hall Hmk
            go_wp2_with fail
            have hmk : (Instr.makeSlice 29 (.int .i64 (k : Int)) (.int .i64 (k : Int))).run Try.prog w3 = .ok (.slice (some ⟨w3.heap.size, 0, none⟩) k k) (w3.alloc (.cells (List.replicate k (Value.int .i64 0)).toArray 3)) := by
              obtain ⟨i, hi, hz, hs, hby⟩ := intsTy.info
              have h := run_makeSlice (P := Try.prog) w3 29 3 i (.int .i64 0) intsTy.ht hi hz .i64 .i64 (k : Int) (k : Int) (by omega) (by omega) (by rw [hs]; simp; omega) (by rw [hby]; simp; omega) (by omega)
              rw [h, hs]
              have e1 : madeCells (Value.int .i64 0).cells ((k : Int).toNat * 1) = (List.replicate k (Value.int .i64 0)).toArray := by
                refine Array.toList_inj.1 ?_
                rw [Int.toNat_natCast, Nat.mul_one]
                exact toList_madeCells_one (.int .i64 0) k
              rw [e1, Int.toNat_natCast]
            rw [hmk]
            simp only [Result.andThen]
            rw [Oper.upon_value]
            clear hmk
            obtain ⟨runs, hruns⟩ : ∃ runs : List (List UInt8), runs = rs.map fun s => s.data.toList := ⟨_, rfl⟩
            obtain ⟨W0, hW0⟩ : ∃ W0, w3.alloc (.cells (List.replicate k (Value.int .i64 0)).toArray 3) = W0 := ⟨_, rfl⟩
            have hgW : Grow w3 W0 := by rw [← hW0]; exact Grow.alloc _ _
            have hin0 : InAt W0 w3.heap.size k (fun d => inC docs (runs.take 0) d) := by
              have e : ((List.range k).map fun d => Value.int .i64 ((inC docs (runs.take 0) d : Nat) : Int)) = List.replicate k (Value.int .i64 0) := by
                rw [List.eq_replicate_iff]
                refine ⟨by simp, fun x hx => ?_⟩
                obtain ⟨d, -, rfl⟩ := List.mem_map.1 hx
                rfl
              unfold InAt
              rw [e, ← hW0]
              exact Blk.new _ _ _
            obtain ⟨g, hg⟩ : ∃ g, g = w3.heap.size := ⟨_, rfl⟩
            rw [← hg] at hin0
            rw [hW0, ← hg]
            have Hg := Lib.hid hg
            have HgW := Lib.hid hgW
            have Hin0 := Lib.hid hin0
            have Hruns := Lib.hid hruns
            have Hrul := Lib.hid (show runs.length = nr by rw [hruns, List.length_map]; exact Hrl.out)
            clear hW0 hgW hin0 hg hruns
            go_wp2_with fail
            go_loopw [9, 10, 11, 12, 13, 14] (fun v9 v10 v11 v12 v13 v14 wr => ∃ i : Nat, i ≤ nr ∧ v9 = .int .i64 (i : Int) ∧ Hid (InAt wr g k (fun d => inC docs (runs.take i) d)) ∧ Hid (Grow w3 wr)) (fun v9 _ _ _ _ _ _ => nr - (intOf v9).toNat)
            case atStart => exact ⟨0, by omega, rfl, Hin0, HgW⟩
            case round =>
              obtain ⟨i, hi, rfl, hIn, hGw⟩ := hrel
              by_cases hir : i < nr
              · have e1 : decide ((i : Int) < (nr : Int)) = true := decide_eq_true (by omega)
                obtain ⟨s, hs⟩ : ∃ s, rs[i]? = some s := ⟨_, List.getElem?_eq_getElem (by rw [Hrl.out]; exact hir)⟩
                have hsz := Hrs.out s (List.mem_of_getElem? hs)
                obtain ⟨run, hrun⟩ : ∃ run, run = s.data.toList := ⟨_, rfl⟩
                obtain ⟨z, hz⟩ : ∃ z, z = s.size := ⟨_, rfl⟩
                have hzr : run.length = z := by rw [hrun, hz]; exact Array.length_toList
                have Hz := Lib.hid hz
                have Hzr := Lib.hid hzr
                have Hrun := Lib.hid hrun
                have Htk := Lib.hid (show runs.take (i + 1) = runs.take i ++ [run] by
                  rw [List.take_add_one, Hruns.out, List.getElem?_map, hs, hrun]
                  rfl)
                obtain ⟨b4, o4, hA1, hb4, hcs4⟩ := (Hr.out _ (Below.trans Hg3.out (Below.mono hGw.out Hg3.out.size))).2 (by omega)
                have Hc4 := Lib.hid (show ∀ W, Grow w W → W.cell? ⟨b4, o4 + i, none⟩ = some (.string s) from fun W hg => by
                  obtain ⟨b4', o4', hA', -, hcs'⟩ := (Hr.out W hg).2 (by omega)
                  rw [hA1] at hA'
                  injection hA' with hA'
                  injection hA' with e1 e2
                  subst e1 e2
                  exact hcs' i _ (by rw [List.getElem?_map, hs]; rfl))
                have Hpl := Lib.hid (nPlaces_any _ w3.heap.size s A3 m3 c3 ps (Hps.out _ hGw.out) hGw.out.size (by omega) HPs.out.nd Hok.out (by omega))
                have hc4 := Hc4.out _ (Below.trans Hg3.out (Below.mono hGw.out Hg3.out.size))
                have Hin := hIn
                have HGw := hGw
                subst hA1
                clear hs hrun hz hzr hcs4
                go_wp2_with fail
                refine Hpl.out.mono ?_
                rintro e w5 ⟨v5, rfl, ho5, hg5⟩
                have hnear := HPs.out.near s
                unfold nearS at hnear
                rw [hnear, ← Hrun.out] at ho5
                obtain ⟨m5, hm5⟩ : ∃ m5, m5 = (nearP docs (gramsT run)).length := ⟨_, rfl⟩
                rw [← hm5] at ho5
                obtain ⟨A5, c5, rfl, -, -, -⟩ := own_reads ho5
                have Hm5 := Lib.hid hm5
                have hm5b : m5 ≤ 600 := by
                  rw [hm5, near_st]
                  refine Nat.le_trans (List.length_filter_le _ _) ?_
                  rw [allPl_len]
                  exact Htot.out
                have Hgx := Lib.hid (show ∀ W, Keep (fun j => j = g) w5 W → Grow w3 W from fun W hk => Below.trans HGw.out (Below.trans (Below.mono hg5 HGw.out.size) (hk.below (fun j hj => by rw [hj, Hg.out]; exact Nat.le_refl _) (Nat.le_trans HGw.out.size hg5.size))))
                have Hgg := Lib.hid (show ∀ W, Keep (fun j => j = g) w5 W → Grow w W from fun W hk => Below.trans Hg3.out (Below.mono (Hgx.out W hk) Hg3.out.size))
                have Hpr := Lib.hid (show ∀ W, Keep (fun j => j = g) w5 W → ReadsAt W W.heap.size 2 A5 m5 (plCs (nearP docs (gramsT run))) from fun W hk => by
                  have h := hk.own ho5 (fun j hj e => by
                    have h1 := (ho5.lt j hj).1
                    have h2 := Hin.out.lt
                    have e : j = g := e
                    omega)
                  obtain ⟨A', c', e, -, -, hrd⟩ := own_reads h
                  injection e with e1 e2 e3
                  rw [e1]
                  exact hrd)
                have Hin5 := Lib.hid (Hin.out.grow hg5)
                clear ho5 hg5 hm5 hIn hGw Hin HGw hnear Hpl hc4
                go_wp2_with fail
                go_loopw [11, 12, 13, 14] (fun v11 v12 v13 v14 wr => ∃ d : Nat, d ≤ k ∧ v12 = .int .i64 (d : Int) ∧ v11 = .int .i64 ((cntP docs run d 0 : Nat) : Int) ∧ Hid (∃ C, InAt wr g k C ∧ (∀ x, x < d → C x = inC docs (runs.take (i + 1)) x) ∧ ∀ x, d ≤ x → C x = inC docs (runs.take i) x) ∧ Hid (Keep (fun j => j = g) w5 wr)) (fun _ v12 _ _ _ => k - (intOf v12).toNat)
                case atStart => exact ⟨0, by omega, rfl, by rw [cntP_zero]; rfl, ⟨_, Hin5.out, fun x hx => by omega, fun x _ => rfl⟩, Keep.refl _ _⟩
                case round =>
                  obtain ⟨d, hd, rfl, rfl, hC, hK⟩ := hrel
                  obtain ⟨wd, rfl⟩ : ∃ wd : World, wd = wr := ⟨_, rfl⟩
                  by_cases hdk : d < k
                  · have e2 : decide ((d : Int) < (k : Int)) = true := decide_eq_true (by omega)
                    obtain ⟨b, hb⟩ : ∃ b, docs[d]? = some b := ⟨_, List.getElem?_eq_getElem (by rw [Hlen.out]; exact hdk)⟩
                    obtain ⟨b1, o1, A2, n2, c2, hA0, hb1, hcb0, hnc2, -, hbb⟩ := (HR.out w (Grow.refl w)).get hb
                    have Hcd := Lib.hid (show ∀ W, Grow w W → W.cell? ⟨b1, o1 + d, none⟩ = some (.slice A2 n2 c2) from fun W hg => (hg.cell (p := ⟨b1, o1 + d, none⟩) hb1).trans hcb0)
                    have Hbb := Lib.hid (show ∀ W, Grow w W → BytesAt W w.heap.size A2 n2 b from fun W hg => hbb.below hg)
                    have Hb := Lib.hid hb
                    have Hbl := Lib.hid hbb.len
                    have hn2 : n2 ≤ 600 := by rw [← hbb.len]; exact Nat.le_trans (mem_totD (List.mem_of_getElem? hb)) Htot.out
                    have HA0 := Lib.hid hA0
                    obtain ⟨C, hC1, hC2, hC3⟩ := hC.out
                    have HC2 := Lib.hid hC2
                    have HC3 := Lib.hid hC3
                    have HCd := Lib.hid (show C d = inC docs (runs.take i) d from hC3 d (Nat.le_refl _))
                    have HCb := Lib.hid (show C d ≤ 10 from by
                      rw [HCd.out]
                      refine Nat.le_trans (inC_le _ _ _) ?_
                      rw [List.length_take, Hrul.out]
                      omega)
                    have HC1 := Lib.hid hC1
                    clear hb hcb0 hbb hC1 hC2 hC3 hC
                    subst hA0
                    go_wp2_with fail
                    go_loopw [11, 13, 14] (fun v11 v13 v14 wr => ∃ a : Nat, (a = 0 ∨ a + z ≤ n2 + 1) ∧ v14 = .int .i64 (a : Int) ∧ v11 = .int .i64 ((cntP docs run d a : Nat) : Int) ∧ v13 = .bool (fstB docs run d a) ∧ Hid (∃ C', InAt wr g k C' ∧ (∀ x, x ≠ d → C' x = C x) ∧ C' d = C d + (if fstB docs run d a = true then 0 else 1)) ∧ Hid (Keep (fun j => j = g) w5 wr)) (fun _ _ v14 _ => n2 + 1 - (intOf v14).toNat)
                    case atStart => exact ⟨0, Or.inl rfl, rfl, rfl, rfl, ⟨C, HC1.out, fun _ _ => rfl, by rw [fstB_zero]; rfl⟩, hK⟩
                    case round =>
                      obtain ⟨a, ha, rfl, rfl, rfl, hC, hK⟩ := hrel
                      obtain ⟨wa, rfl⟩ : ∃ wa : World, wa = wr := ⟨_, rfl⟩
                      have hcd := Hcd.out _ (Hgg.out _ hK.out)
                      have hc4 := Hc4.out _ (Hgg.out _ hK.out)
                      obtain ⟨q, hq⟩ : ∃ q, q = cntP docs run d a := ⟨_, rfl⟩
                      obtain ⟨f, hf⟩ : ∃ f, f = fstB docs run d a := ⟨_, rfl⟩
                      rw [← hq, ← hf]
                      rw [← hf] at hC
                      have Hq := Lib.hid hq
                      have Hf := Lib.hid hf
                      clear hq hf
                      by_cases hA : a + z ≤ n2
                      · have dA : decide ((a : Int) + (s.size : Int) ≤ (n2 : Int)) = true := decide_eq_true (by have := Hz.out; omega)
                        by_cases hB : 2 < z
                        · have dB : decide ((s.size : Int) > 2) = true := decide_eq_true (by have := Hz.out; omega)
                          have hbb := Hbb.out _ (Hgg.out _ hK.out)
                          obtain ⟨b0, off, hA2, hb0, -⟩ := hbb.at_ (by omega)
                          rw [hA2] at hbb hcd
                          obtain ⟨S1, hS1⟩ : ∃ S1, S1 = cutS b a s.size := ⟨_, rfl⟩
                          have hcv2 : ∀ q, (convert 26 9 (.slice (some ⟨b0, off + a, none⟩) s.size (c2 - a))).run Try.prog (wa.drewN q) = .ok (.string S1) (wa.drewN q) := fun q => by
                            rw [hS1]
                            exact convN (hbb.below (show Below w.heap.size wa (wa.drewN q) from ⟨rfl, rfl, rfl, Nat.le_refl _, fun _ _ => rfl⟩)) (by have := Hz.out; omega) (c2 - a)
                          have Hst := Lib.hid (show stB docs run (d, a) = true ↔ S1 = s from by
                            rw [stB_iff Hb.out, hS1, cutS_eq, ← Hrun.out, Hzr.out, Hbl.out]
                            constructor
                            · exact fun h => h.2.2
                            · exact fun h => ⟨by omega, hA, h⟩)
                          have hsz0 : s.size ≤ 600 := hsz
                          have haz : a + s.size ≤ n2 := by have := Hz.out; omega
                          clear hbb hS1 hb0
                          subst hA2
                          by_cases hE : S1 = s
                          · have hq : (S1.toList == s.toList) = true := by rw [hE]; exact str_eq s
                            have Hst1 := Lib.hid (Hst.out.2 hE)
                            clear hE Hst
                            go_wp2_with fail
                            go_quiet (fail)
                            obtain ⟨nq1, rfl⟩ : ∃ z, z = nq := ⟨_, rfl⟩
                            go_wp2_with fail
                            go_quiet (fail)
                            obtain ⟨C', hC1, hC2, hC3⟩ := hC.out
                            obtain ⟨wb, hwb⟩ : ∃ wb, ((wa.drewN nq1).drewN nq) = wb := ⟨_, rfl⟩
                            have hKb : Keep (fun j => j = g) w5 wb := by rw [← hwb]; exact hK.out.trans' (Keep.grow (show Grow wa ((wa.drewN nq1).drewN nq) from ⟨rfl, rfl, rfl, Nat.le_refl _, fun _ _ => rfl⟩))
                            have hIb : InAt wb g k C' := by rw [← hwb]; exact hC1
                            have HC2' := Lib.hid hC2
                            have HC3' := Lib.hid hC3
                            have HKb := Lib.hid hKb
                            have HIb := Lib.hid hIb
                            rw [hwb]
                            clear hwb hC hK hC1 hC2 hC3 hKb hIb hcd hc4
                            clear hcv2
                            have hL := near_here Hb.out Hst1.out
                            rw [← Hq.out] at hL
                            have hqm : q < m5 := by rw [Hm5.out]; exact (List.getElem?_eq_some_iff.1 hL).1
                            obtain ⟨b5, o5, hA5, hb5, hcs5⟩ := (Hpr.out wb HKb.out).2 (by omega)
                            have hx1 : wb.cell? ⟨b5, o5 + q * 2, none⟩ = some (.int .i64 (d : Int)) := hcs5 _ _ (plCs_at hL).1
                            have hx2 : wb.cell? ⟨b5, o5 + q * 2 + 1, none⟩ = some (.int .i64 (a : Int)) := hcs5 _ _ (plCs_at hL).2
                            have d5 : ((q : Int) == (m5 : Int)) = false := by rw [beq_eq_false_iff_ne]; omega
                            have d6 : ((d : Int) != (d : Int)) = false := by simp
                            have d7 : ((a : Int) != (a : Int)) = false := by simp
                            have HA5 := Lib.hid hA5
                            clear hcs5 hL
                            cases f with
                            | true =>
                              obtain ⟨v, hv⟩ : ∃ v, v = C' d := ⟨_, rfl⟩
                              have hci : wb.cell? ⟨g, d, none⟩ = some (.int .i64 (v : Int)) := by rw [hv]; exact HIb.out.cell hdk
                              have hfz : wb.frozen? ⟨g, d, none⟩ = false := Blk.frozen HIb.out d
                              have hvb : v ≤ 10 := by
                                rw [hv, HC3'.out]
                                exact HCb.out
                              have HI9 : Hid (InAt (wb.setCell ⟨g, d, none⟩ (.int .i64 ((v : Int) + 1))) g k (fun x => if x = d then C' d + 1 else C' x)) := by
                                rw [hv]
                                exact HIb.out.put hdk
                              have HK9 := Lib.hid (HKb.out.trans' (show Keep (fun j => j = g) wb (wb.setCell ⟨g, d, none⟩ (.int .i64 ((v : Int) + 1))) from Keep.setCell wb ⟨g, d, none⟩ _))
                              clear hv
                              subst hA5
                              go_wp2_with fail
                              go_roundw
                              case rel => exact ⟨a + 1, Or.inr (by omega), by go_num, by rw [cntP_yes Hst1.out, ← Hq.out]; go_num, by rw [fstB_yes Hst1.out], ⟨_, HI9.out, fun x hx => by rw [if_neg hx]; exact HC2'.out x hx, by rw [if_pos rfl, HC3'.out, fstB_yes Hst1.out]; rfl⟩, HK9⟩
                              case measure => simp [intOf]; omega
                            | false =>
                              subst hA5
                              go_wp2_with fail
                              go_roundw
                              case rel => exact ⟨a + 1, Or.inr (by omega), by go_num, by rw [cntP_yes Hst1.out, ← Hq.out]; go_num, by rw [fstB_yes Hst1.out], ⟨C', HIb.out, HC2'.out, by rw [fstB_yes Hst1.out]; exact HC3'.out⟩, HKb⟩
                              case measure => simp [intOf]; omega
                          · have hq : (S1.toList == s.toList) = false := str_ne hE
                            have Hst1 := Lib.hid (show stB docs run (d, a) = false from by
                              cases h : stB docs run (d, a) with
                              | false => rfl
                              | true => exact absurd (Hst.out.1 h) hE)
                            clear hE Hst
                            go_wp2_with fail
                            go_quiet (fail)
                            obtain ⟨nq1, rfl⟩ : ∃ z, z = nq := ⟨_, rfl⟩
                            go_wp2_with fail
                            go_quiet (fail)
                            obtain ⟨C', hC1, hC2, hC3⟩ := hC.out
                            obtain ⟨wb, hwb⟩ : ∃ wb, ((wa.drewN nq1).drewN nq) = wb := ⟨_, rfl⟩
                            have hKb : Keep (fun j => j = g) w5 wb := by rw [← hwb]; exact hK.out.trans' (Keep.grow (show Grow wa ((wa.drewN nq1).drewN nq) from ⟨rfl, rfl, rfl, Nat.le_refl _, fun _ _ => rfl⟩))
                            have hIb : InAt wb g k C' := by rw [← hwb]; exact hC1
                            have HC2' := Lib.hid hC2
                            have HC3' := Lib.hid hC3
                            have HKb := Lib.hid hKb
                            have HIb := Lib.hid hIb
                            rw [hwb]
                            clear hwb hC hK hC1 hC2 hC3 hKb hIb hcd hc4
                            clear hcv2
                            go_wp2_with fail
                            go_roundw
                            case rel => exact ⟨a + 1, Or.inr (by omega), by go_num, by rw [cntP_no Hst1.out, ← Hq.out], by rw [fstB_no Hst1.out, ← Hf.out], ⟨C', HIb.out, HC2'.out, by rw [fstB_no Hst1.out, ← Hf.out]; exact HC3'.out⟩, HKb⟩
                            case measure => simp [intOf]; omega
                        · have dB : decide ((s.size : Int) > 2) = false := decide_eq_false (by have := Hz.out; omega)
                          have Hend := Lib.hid (row_end (run := run) (a := a) Hb.out (fun x hx => by
                            cases h : stB docs run (d, x) with
                            | false => rfl
                            | true =>
                              have h1 := (stB_iff Hb.out).1 h
                              have h2 := Hzr.out
                              omega))
                          have hsz0 : s.size ≤ 600 := hsz
                          go_wp2_with fail
                          go_quiet (fail)
                          obtain ⟨C', hC1, hC2, hC3⟩ := hC.out
                          obtain ⟨wb, hwb⟩ : ∃ wb, (wa.drewN nq) = wb := ⟨_, rfl⟩
                          have hKb : Keep (fun j => j = g) w5 wb := by rw [← hwb]; exact hK.out.trans' (Keep.grow (show Grow wa (wa.drewN nq) from ⟨rfl, rfl, rfl, Nat.le_refl _, fun _ _ => rfl⟩))
                          have hIb : InAt wb g k C' := by rw [← hwb]; exact hC1
                          have HC2' := Lib.hid hC2
                          have HC3' := Lib.hid hC3
                          have HKb := Lib.hid hKb
                          have HIb := Lib.hid hIb
                          rw [hwb]
                          clear hwb hC hK hC1 hC2 hC3 hKb hIb hcd hc4
                          go_wp2_with fail
                          go_roundw
                          case rel => exact ⟨d + 1, by omega, by go_num, by rw [Hend.out.1, ← Hq.out], ⟨C', HIb.out, fun x hx => by
                            by_cases hxd : x = d
                            · subst hxd
                              rw [HC3'.out, HCd.out, Htk.out, inC_snoc]
                              congr 1
                              have h9 := Hend.out.2
                              rw [← Hf.out] at h9
                              by_cases hm : x ∈ rowsD docs run
                              · rw [if_pos hm, if_neg fun h => h9.1 h hm]
                              · rw [if_neg hm, if_pos (h9.2 hm)]
                            · rw [HC2'.out x hxd]
                              exact HC2.out x (by omega), fun x hx => by
                              rw [HC2'.out x (by omega)]
                              exact HC3.out x (by omega)⟩, HKb⟩
                          case measure => simp [intOf]; omega
                      · have dA : decide ((a : Int) + (s.size : Int) ≤ (n2 : Int)) = false := decide_eq_false (by have := Hz.out; omega)
                        have Hend := Lib.hid (row_end (run := run) (a := a) Hb.out (fun x hx => by
                          cases h : stB docs run (d, x) with
                          | false => rfl
                          | true =>
                            have h1 := (stB_iff Hb.out).1 h
                            have h2 := Hzr.out
                            have h3 := Hbl.out
                            omega))
                        have hsz0 : s.size ≤ 600 := hsz
                        go_wp2_with fail
                        go_quiet (fail)
                        obtain ⟨C', hC1, hC2, hC3⟩ := hC.out
                        obtain ⟨wb, hwb⟩ : ∃ wb, (wa.drewN nq) = wb := ⟨_, rfl⟩
                        have hKb : Keep (fun j => j = g) w5 wb := by rw [← hwb]; exact hK.out.trans' (Keep.grow (show Grow wa (wa.drewN nq) from ⟨rfl, rfl, rfl, Nat.le_refl _, fun _ _ => rfl⟩))
                        have hIb : InAt wb g k C' := by rw [← hwb]; exact hC1
                        have HC2' := Lib.hid hC2
                        have HC3' := Lib.hid hC3
                        have HKb := Lib.hid hKb
                        have HIb := Lib.hid hIb
                        rw [hwb]
                        clear hwb hC hK hC1 hC2 hC3 hKb hIb hcd hc4
                        go_wp2_with fail
                        go_roundw
                        case rel => exact ⟨d + 1, by omega, by go_num, by rw [Hend.out.1, ← Hq.out], ⟨C', HIb.out, fun x hx => by
                          by_cases hxd : x = d
                          · subst hxd
                            rw [HC3'.out, HCd.out, Htk.out, inC_snoc]
                            congr 1
                            have h9 := Hend.out.2
                            rw [← Hf.out] at h9
                            by_cases hm : x ∈ rowsD docs run
                            · rw [if_pos hm, if_neg fun h => h9.1 h hm]
                            · rw [if_neg hm, if_pos (h9.2 hm)]
                          · rw [HC2'.out x hxd]
                            exact HC2.out x (by omega), fun x hx => by
                            rw [HC2'.out x (by omega)]
                            exact HC3.out x (by omega)⟩, HKb⟩
                        case measure => simp [intOf]; omega
                  · obtain rfl : d = k := by omega
                    have e2 : decide ((d : Int) < (d : Int)) = false := decide_eq_false (by omega)
                    have hcm : cntP docs run d 0 = m5 := by rw [Hm5.out, ← cntP_all, Hlen.out]
                    rw [hcm]
                    have d9 : ((m5 : Int) != (m5 : Int)) = false := by simp
                    have HG9 := Lib.hid (Hgx.out wd hK.out)
                    obtain ⟨C, hC1, hC2, -⟩ := hC.out
                    have HI9 := Lib.hid (hC1.congr fun x hx => hC2 x hx)
                    clear hcm hC hK hC1 hC2
                    go_wp2_with fail
                    go_roundw
                    case rel => exact ⟨i + 1, by omega, by go_num, HI9, HG9⟩
                    case measure => simp [intOf]; omega
              · obtain rfl : i = nr := by omega
                have e1 : decide ((i : Int) < (i : Int)) = false := decide_eq_false (by omega)
                have hIn9 := hIn.out
                rw [List.take_of_length_le (by rw [Hrul.out]; exact Nat.le_refl _)] at hIn9
                obtain ⟨wq, hwq⟩ : ∃ wq : World, wq = wr := ⟨_, rfl⟩
                have HIn9 := Lib.hid hIn9
                have HGw := hGw
                have Hall := Lib.hid (nAll_any _ w3.heap.size A3 A1 m3 c3 i cr ps rs (Hps.out _ hGw.out) ((Hr.out _ (Below.trans Hg3.out (Below.mono hGw.out Hg3.out.size))).more Hg3.out.size) hGw.out.size (by omega) HPs.out.nd Hok.out Hdoc.out (fun s hs => Nat.le_trans (Hrs.out s hs) (by omega)) (by omega))
                clear hIn hGw hIn9 hwq
                go_wp2_with fail
                refine Hall.out.mono ?_
                rintro e w7 ⟨m, hm, v7, rfl, ho7, hg7⟩
                rw [HPs.out.meet rs hm, ← Hruns.out] at ho7
                obtain ⟨m7, hm7⟩ : ∃ m7, m7 = (allD docs runs).length := ⟨_, rfl⟩
                rw [List.length_map, ← hm7] at ho7
                obtain ⟨A7, c7, rfl, -, -, hr7⟩ := own_reads ho7
                have Hr7 := Lib.hid hr7
                have Hm7 := Lib.hid hm7
                have hm7b : m7 ≤ 50 := by
                  rw [hm7]
                  unfold allD
                  refine Nat.le_trans (List.length_filter_le _ _) ?_
                  rw [List.length_range, Hlen.out]
                  exact h50
                have HI7 := Lib.hid (HIn9.out.grow hg7)
                have HG7 := Lib.hid (show Below w.heap.size w w7 from Below.trans Hg3.out (Below.mono (Below.trans HGw.out (Below.mono hg7 HGw.out.size)) Hg3.out.size))
                clear hm ho7 hg7 hr7 hm7 HIn9 HGw Hall
                go_wp2_with fail
                go_loopw [16, 17] (fun v16 v17 wr => ∃ d : Nat, d ≤ k ∧ v17 = .int .i64 (d : Int) ∧ v16 = .int .i64 ((cntA docs runs d : Nat) : Int) ∧ wr = w7) (fun _ v17 _ => k - (intOf v17).toNat)
                case atStart => exact ⟨0, by omega, rfl, rfl, rfl⟩
                case round =>
                  obtain ⟨d, hd, rfl, rfl, hwr⟩ := hrel
                  subst hwr
                  by_cases hdk : d < k
                  · have e2 : decide ((d : Int) < (k : Int)) = true := decide_eq_true (by omega)
                    obtain ⟨v, hv⟩ : ∃ v, v = inC docs runs d := ⟨_, rfl⟩
                    have hci : wr.cell? ⟨g, d, none⟩ = some (.int .i64 (v : Int)) := by rw [hv]; exact HI7.out.cell hdk
                    obtain ⟨q, hq⟩ : ∃ q, q = cntA docs runs d := ⟨_, rfl⟩
                    rw [← hq]
                    have Hv := Lib.hid hv
                    have Hq := Lib.hid hq
                    clear hv hq
                    by_cases h0 : 0 < i
                    · have e3 : decide ((i : Int) > 0) = true := decide_eq_true (by omega)
                      by_cases hvi : v = i
                      · have e4 : ((v : Int) == (i : Int)) = true := by rw [hvi]; simp
                        have hB : allB docs runs d = true := allB_iff.2 ⟨by rw [Hrul.out]; exact h0, by rw [← Hv.out, Hrul.out]; exact hvi⟩
                        have hL := all_here (by rw [Hlen.out]; exact hdk) hB
                        rw [← Hq.out] at hL
                        have hqm : q < m7 := by rw [Hm7.out]; exact (List.getElem?_eq_some_iff.1 hL).1
                        obtain ⟨b7, o7, hA7, hb7, hcs7⟩ := Hr7.out.2 (by omega)
                        have hx : wr.cell? ⟨b7, o7 + q, none⟩ = some (.int .i64 (d : Int)) := hcs7 q (i64v d) (by rw [List.getElem?_map, List.getElem?_map, hL]; rfl)
                        have e5 : ((q : Int) == (m7 : Int)) = false := by rw [beq_eq_false_iff_ne]; omega
                        have e6 : ((d : Int) != (d : Int)) = false := by simp
                        have HB := Lib.hid hB
                        clear hcs7 hL hB hvi
                        subst hA7
                        go_wp2_with fail
                        go_roundw
                        case rel => exact ⟨d + 1, by omega, by go_num, by rw [cntA_yes HB.out, ← Hq.out]; go_num, by first | trivial | rfl⟩
                        case measure => simp [intOf]; omega
                      · have e4 : ((v : Int) == (i : Int)) = false := by rw [beq_eq_false_iff_ne]; omega
                        have HB := Lib.hid (show allB docs runs d = false from by
                          cases h : allB docs runs d with
                          | false => rfl
                          | true =>
                            have h1 := (allB_iff.1 h).2
                            rw [← Hv.out, Hrul.out] at h1
                            exact absurd h1 hvi)
                        clear hvi
                        go_wp2_with fail
                        go_roundw
                        case rel => exact ⟨d + 1, by omega, by go_num, by rw [cntA_no HB.out, ← Hq.out], by first | trivial | rfl⟩
                        case measure => simp [intOf]; omega
                    · have e3 : decide ((i : Int) > 0) = false := decide_eq_false (by omega)
                      have HB := Lib.hid (show allB docs runs d = false from by
                        cases h : allB docs runs d with
                        | false => rfl
                        | true =>
                          have h1 := (allB_iff.1 h).1
                          rw [Hrul.out] at h1
                          omega)
                      go_wp2_with fail
                      go_roundw
                      case rel => exact ⟨d + 1, by omega, by go_num, by rw [cntA_no HB.out, ← Hq.out], by first | trivial | rfl⟩
                      case measure => simp [intOf]; omega
                  · obtain rfl : d = k := by omega
                    have e2 : decide ((d : Int) < (d : Int)) = false := decide_eq_false (by omega)
                    have hcm : cntA docs runs d = m7 := by
                      rw [Hm7.out]
                      unfold cntA allD
                      rw [Hlen.out]
                    rw [hcm]
                    have e7 : ((m7 : Int) == (m7 : Int)) = true := by simp
                    clear hcm
                    go_wp2_with fail
                    go_ret
                    exact ⟨rfl, HG7.out⟩
          · have d5 : decide ((k : Int) > 50) = true := decide_eq_true (by omega)
            go_wp2_with fail
            go_ret
            exact ⟨rfl, Hg2.out⟩
        · have d4 : decide ((nr : Int) > 10) = true := decide_eq_true (by omega)
          go_wp2_with fail
          go_ret
          exact ⟨rfl, Hg2.out⟩
    · have d2 : decide ((T k : Int) ≤ 600) = false := decide_eq_false (by omega)
      have d3 : decide ((T k : Int) > 600) = true := decide_eq_true (by omega)
      by_cases hlt : k < n
      · have d1 : decide ((k : Int) < (n : Int)) = true := decide_eq_true (by omega)
        go_wp2_with fail
        go_ret
        exact ⟨rfl, Hg2.out⟩
      · have d1 : decide ((k : Int) < (n : Int)) = false := decide_eq_false (by omega)
        go_wp2_with fail
        go_ret
        exact ⟨rfl, Hg2.out⟩
section
variable {H : Type} {enc : TypeId × Value → H} {w : World}
theorem readsBy_str {P : Program} {t : TypeId} (ht : P.underlying t = some .string) : ReadsBy enc P w t (fun cs (s : ByteArray) => cs = [.string s] ∧ s.size ≤ 140737488351232) := fun m cs y h hz => by
  obtain ⟨s, hx, rfl, hs⟩ := DataW.trod_string ht h
  refine ⟨s, hx, ?_⟩
  have h1 := hz s.data.toList.length (by simp [DataW.weights])
  rw [Array.length_toList] at h1
  exact h1
theorem textsAt_of {B n : Nat} {A : Option Addr} {l : List ByteArray} (h : SliceBy w B 1 A n (fun cs (s : ByteArray) => cs = [.string s] ∧ s.size ≤ 140737488351232) l) : ReadsAt w B 1 A n (l.map Value.string) ∧ ∀ s ∈ l, s.size ≤ 281474976710656 := by
  refine ⟨⟨by rw [List.length_map, h.1, Nat.mul_one], fun hn => ?_⟩, fun s hs => ?_⟩
  · obtain ⟨b, off, e, hb, hc⟩ := h.2 hn
    refine ⟨b, off, e, hb, fun j u hu => ?_⟩
    rw [List.getElem?_map] at hu
    cases hl : l[j]? with
    | none => rw [hl] at hu; cases hu
    | some s =>
      rw [hl] at hu
      injection hu with hu
      obtain ⟨cs, -, ⟨rfl, -⟩, hcs⟩ := hc j s hl
      have h1 := hcs 0 _ rfl
      rw [Nat.mul_one] at h1
      rw [← hu]
      exact h1
  · obtain ⟨j, hj⟩ := List.getElem?_of_mem hs
    obtain ⟨b, off, e, hb, hc⟩ := h.2 (by have h1 := (List.getElem?_eq_some_iff.1 hj).1; have h2 := h.1; omega)
    obtain ⟨cs, -, ⟨-, h1⟩, -⟩ := hc j s hj
    omega
theorem open_texts {A : Option Addr} {n c : Nat} {d : DataW H} {p : List MemPlace}
    (h : DataW.Trod enc Try.prog w 0 (fun _ => true) true 23 (.slice A n c) d p) (hz : Within Try.prog 23 d) : ∃ ts : List ByteArray, n ≤ c ∧ c ≤ maxLen ∧ ReadsAt w w.heap.size 1 A n (ts.map Value.string) ∧ n ≤ 281474976710656 ∧ ∀ s ∈ ts, s.size ≤ 281474976710656 := by
  obtain ⟨l, A', n', c', e1, h1, h2, h4, h3⟩ := open_by (readsBy_slice Try.underlying23 1 16 (by kernel_rfl) (by kernel_rfl) (by omega) (readsBy_str Try.underlying9)) h hz
  simp only [Value.cells, List.cons.injEq, Value.slice.injEq, and_true] at e1
  obtain ⟨rfl, rfl, rfl⟩ := e1
  obtain ⟨i1, i2⟩ := textsAt_of h3
  exact ⟨l, h1, h2, i1, by omega, i2⟩
end
end Go.Proofs.Ytamdejidkgnaeaa
