/-
  The walks of a disk's Rename, and of what undoes it. (printed by gen/vrename.py)
-/
import Derived.Test.YtcfhhekklakacaaVfsRemove
namespace Go.Proofs.Ytcfhhekklakacaa
open Go.RowKit Go.Maps
set_option linter.unusedVariables false
theorem putF_twice {M : FM} {l : List UInt8} (u v : Option Nat) : putF (putF M l u) l v = putF M l v := by
  funext x
  by_cases e : x = l
  · subst e
    rw [putF_self, putF_self]
  · rw [putF_ne _ _ e, putF_ne _ _ e, putF_ne _ _ e]
set_option maxRecDepth 100000 in
set_option maxHeartbeats 4000000 in
theorem vRename2_any (w : World) (g mb bd bt bi bw bf bn n id : Nat) (was : Option Nat) (tn name : ByteArray) (M : FM) {cs : Array Value} (hd : Blk w bd 25 #[pg g]) (htt : Blk w bt 9 #[.string tn]) (hi : Blk w bi 4 #[.bool was.isSome]) (hw : Blk w bw 53 #[pf was]) (hf : Blk w bf 53 #[pg id])
    (hn : Blk w bn 9 #[.string name]) (hs : name.size ≤ maxLen) (hts : tn.size ≤ maxLen) (hg : Blk w g 51 cs) (hc : cs[1]? = some (.map (some mb))) (hm : FMapAt w mb n M) (hnm : n + 1 < maxLen) :
    Calls Try.prog 31 #[pg bd, pg bt, pg bi, pg bw, pg bf, pg bn] w fun e w' => e = .returned (.tuple #[]) ∧ FMapAt w' mb (n + 2) (putF (putF M tn.data.toList was) name.data.toList (some id)) ∧ Keep (fun j => j = mb) w w' := by
  obtain ⟨wr, rfl⟩ : ∃ wr : World, wr = w := ⟨_, rfl⟩
  have hnm0 : n < maxLen := by omega
  have Hf := Lib.hid (show ∀ W, Keep (fun j => j = mb) wr W → W.cell? ⟨bf, 0, none⟩ = some (pg id) from fun W h => (h.blk hf (hm.ne hf)).cell 0)
  have Hw := Lib.hid (show ∀ W, Keep (fun j => j = mb) wr W → W.cell? ⟨bw, 0, none⟩ = some (pf was) from fun W h => (h.blk hw (hm.ne hw)).cell 0)
  have Hi := Lib.hid (show ∀ W, Keep (fun j => j = mb) wr W → W.cell? ⟨bi, 0, none⟩ = some (.bool was.isSome) from fun W h => (h.blk hi (hm.ne hi)).cell 0)
  have Ht := Lib.hid (show ∀ W, Keep (fun j => j = mb) wr W → W.cell? ⟨bt, 0, none⟩ = some (.string tn) from fun W h => (h.blk htt (hm.ne htt)).cell 0)
  have Hd := Lib.hid (show ∀ W, Keep (fun j => j = mb) wr W → W.cell? ⟨bd, 0, none⟩ = some (pg g) from fun W h => (h.blk hd (hm.ne hd)).cell 0)
  have Hn := Lib.hid (show ∀ W, Keep (fun j => j = mb) wr W → W.cell? ⟨bn, 0, none⟩ = some (.string name) from fun W h => (h.blk hn (hm.ne hn)).cell 0)
  have Hm := Lib.hid (show ∀ W, Keep (fun j => j = mb) wr W → W.cell? ⟨g, 1, none⟩ = some (.map (some mb)) from fun W h => ((h.blk hg (hm.ne hg)).cell 1).trans hc)
  have Hm0 := Lib.hid (show FMapAt wr mb n M from hm)
  clear hf hw hi htt hd hn hm hg hc
  go_enter Try.func31, Try.ntmps31
  go_upto_region 0 with (fail)
  go_cut [] from 6 to 10 (fun wx => ∃ W : World, W = wx ∧ FMapAt W mb n (putF M tn.data.toList none) ∧ Keep (fun j => j = mb) wr W)
  case first Jx Kx hJx hMx =>
    refine wp_region_stages (by kernel_rfl) ?_
    refine anyOrder_start [5] (Keep (fun j => j = mb)) (mapW wr mb n n M (putF M tn.data.toList none)) (FactsOn [.is (.pointer (some ⟨g, 0, none⟩)), .is (.pointer (some ⟨g, 0, none⟩)), .is (.pointer (some ⟨g, 1, none⟩)), .is (.map (some mb)), .is (.string tn), .any]) (fun i => 99) keep_trans keep_grow (mapW.grow) (factsOn_mono _) (by kernel_rfl) (by kernel_rfl) ⟨Hm0.out, Keep.refl _ _⟩ ?_ ?_
    · refine ⟨?_, ?_, ?_, ?_, ?_, ?_, trivial⟩
      · refine stageOf_free rfl (fun _ _ _ _ _ _ => wanted_none rfl) ?_
        intro us vals w3 a' ha hle hW hd hv K hK
        have q0 : a'.tmps[0]? = some (.pointer (some ⟨bd, 0, none⟩)) := slot_old ha (by kernel_rfl) (by kernel_rfl)
        have hc := Hd.out w3 hW.keep
        refine step_value (v := .pointer (some ⟨g, 0, none⟩)) (w2 := w3) ?_ (hK _ _ (Grow.refl _) rfl)
        go_simp
      · refine stageOf_free rfl (fun _ _ _ _ _ _ => wanted_none rfl) ?_
        intro us vals w3 a' ha hle hW hd hv K hK
        obtain ⟨d0, _⟩ := hd
        have q6 : a'.tmps[6]? = some (us 0) := slot_get ha 0 (by kernel_rfl) (by kernel_rfl)
        rw [show us 0 = .pointer (some ⟨g, 0, none⟩) from d0] at q6
        refine step_value (v := .pointer (some ⟨g, 0, none⟩)) (w2 := w3) ?_ (hK _ _ (Grow.refl _) rfl)
        go_simp
      · refine stageOf_free rfl (fun _ _ _ _ _ _ => wanted_none rfl) ?_
        intro us vals w3 a' ha hle hW hd hv K hK
        obtain ⟨d1, _⟩ := hd
        have q7 : a'.tmps[7]? = some (us 1) := slot_get ha 1 (by kernel_rfl) (by kernel_rfl)
        rw [show us 1 = .pointer (some ⟨g, 0, none⟩) from d1] at q7
        refine step_value (v := .pointer (some ⟨g, 1, none⟩)) (w2 := w3) ?_ (hK _ _ (Grow.refl _) rfl)
        go_simp
      · refine stageOf_free rfl (fun _ _ _ _ _ _ => wanted_none rfl) ?_
        intro us vals w3 a' ha hle hW hd hv K hK
        obtain ⟨d2, _⟩ := hd
        have q8 : a'.tmps[8]? = some (us 2) := slot_get ha 2 (by kernel_rfl) (by kernel_rfl)
        rw [show us 2 = .pointer (some ⟨g, 1, none⟩) from d2] at q8
        have hc := Hm.out w3 hW.keep
        refine step_value (v := .map (some mb)) (w2 := w3) ?_ (hK _ _ (Grow.refl _) rfl)
        go_simp
      · refine stageOf_free rfl (fun _ _ _ _ _ _ => wanted_none rfl) ?_
        intro us vals w3 a' ha hle hW hd hv K hK
        have q1 : a'.tmps[1]? = some (.pointer (some ⟨bt, 0, none⟩)) := slot_old ha (by kernel_rfl) (by kernel_rfl)
        have hc := Ht.out w3 hW.keep
        refine step_value (v := .string tn) (w2 := w3) ?_ (hK _ _ (Grow.refl _) rfl)
        go_simp
      · refine stageOf_mem (t := 0) rfl ?_
        intro us vals w3 a' ha hle hW hd hv
        obtain ⟨d3, d4, _⟩ := hd
        obtain rfl := List.eq_nil_of_length_eq_zero (Nat.le_zero.1 (show vals.length ≤ 0 from Nat.le_of_eq hv))
        refine ⟨wanted_none rfl, fun K hK => ?_⟩
        have q9 : a'.tmps[9]? = some (us 3) := slot_get ha 3 (by kernel_rfl) (by kernel_rfl)
        rw [show us 3 = .map (some mb) from d3] at q9
        have q10 : a'.tmps[10]? = some (us 4) := slot_get ha 4 (by kernel_rfl) (by kernel_rfl)
        rw [show us 4 = .string tn from d4] at q10
        obtain ⟨w6, hrun, hm6, hk6⟩ := hW.1.del tn (by assumption) 0
        exact wp_delete 46 9 9 10 rfl q9 q10 hrun (hK _ _ hk6 ⟨hm6, hW.2.trans' hk6⟩)
    · intro us vals w6 hle hvl hW ht hf
      obtain ⟨x, rfl⟩ := List.length_eq_one_iff.1 hvl
      exact hMx _ _ (Met.intro (hJx _ _ ⟨us 0, us 1, us 2, us 3, us 4, ⟨_, rfl, hW.1, hW.2⟩, by kernel_rfl⟩))
  case rest =>
  obtain ⟨w6, rfl, hm6, hk6⟩ := hcut
  have Hm6 := Lib.hid hm6
  have Hk6 := Lib.hid hk6
  have hci := Hi.out w6 hk6
  clear hm6 hk6 Hm0 Hi
  cases was with
  | none =>
    have hci : w6.cell? ⟨bi, 0, none⟩ = some (.bool false) := hci
    go_upto_region 3 with (fail)
    refine wp_region_stages (by kernel_rfl) ?_
    refine anyOrder_start [6] (Keep (fun j => j = mb)) (mapW wr mb n (n + 1) (putF M tn.data.toList none) (putF (putF M tn.data.toList none) name.data.toList (some id))) (FactsOn [.is (.pointer (some ⟨g, 0, none⟩)), .is (.pointer (some ⟨g, 0, none⟩)), .is (.pointer (some ⟨g, 1, none⟩)), .is (.map (some mb)), .is (.string name), .is (.pointer (some ⟨id, 0, none⟩)), .any]) (fun i => 99) keep_trans keep_grow (mapW.grow) (factsOn_mono _) (by kernel_rfl) (by kernel_rfl) ⟨Hm6.out, Hk6.out⟩ ?_ ?_
    · refine ⟨?_, ?_, ?_, ?_, ?_, ?_, ?_, trivial⟩
      · refine stageOf_free rfl (fun _ _ _ _ _ _ => wanted_none rfl) ?_
        intro us vals w3 a' ha hle hW hd hv K hK
        have q0 : a'.tmps[0]? = some (.pointer (some ⟨bd, 0, none⟩)) := slot_old ha (by kernel_rfl) (by kernel_rfl)
        have hc := Hd.out w3 hW.keep
        refine step_value (v := .pointer (some ⟨g, 0, none⟩)) (w2 := w3) ?_ (hK _ _ (Grow.refl _) rfl)
        go_simp
      · refine stageOf_free rfl (fun _ _ _ _ _ _ => wanted_none rfl) ?_
        intro us vals w3 a' ha hle hW hd hv K hK
        obtain ⟨d0, _⟩ := hd
        have q18 : a'.tmps[18]? = some (us 0) := slot_get ha 0 (by kernel_rfl) (by kernel_rfl)
        rw [show us 0 = .pointer (some ⟨g, 0, none⟩) from d0] at q18
        refine step_value (v := .pointer (some ⟨g, 0, none⟩)) (w2 := w3) ?_ (hK _ _ (Grow.refl _) rfl)
        go_simp
      · refine stageOf_free rfl (fun _ _ _ _ _ _ => wanted_none rfl) ?_
        intro us vals w3 a' ha hle hW hd hv K hK
        obtain ⟨d1, _⟩ := hd
        have q19 : a'.tmps[19]? = some (us 1) := slot_get ha 1 (by kernel_rfl) (by kernel_rfl)
        rw [show us 1 = .pointer (some ⟨g, 0, none⟩) from d1] at q19
        refine step_value (v := .pointer (some ⟨g, 1, none⟩)) (w2 := w3) ?_ (hK _ _ (Grow.refl _) rfl)
        go_simp
      · refine stageOf_free rfl (fun _ _ _ _ _ _ => wanted_none rfl) ?_
        intro us vals w3 a' ha hle hW hd hv K hK
        obtain ⟨d2, _⟩ := hd
        have q20 : a'.tmps[20]? = some (us 2) := slot_get ha 2 (by kernel_rfl) (by kernel_rfl)
        rw [show us 2 = .pointer (some ⟨g, 1, none⟩) from d2] at q20
        have hc := Hm.out w3 hW.keep
        refine step_value (v := .map (some mb)) (w2 := w3) ?_ (hK _ _ (Grow.refl _) rfl)
        go_simp
      · refine stageOf_free rfl (fun _ _ _ _ _ _ => wanted_none rfl) ?_
        intro us vals w3 a' ha hle hW hd hv K hK
        have q5 : a'.tmps[5]? = some (.pointer (some ⟨bn, 0, none⟩)) := slot_old ha (by kernel_rfl) (by kernel_rfl)
        have hc := Hn.out w3 hW.keep
        refine step_value (v := .string name) (w2 := w3) ?_ (hK _ _ (Grow.refl _) rfl)
        go_simp
      · refine stageOf_free rfl (fun _ _ _ _ _ _ => wanted_none rfl) ?_
        intro us vals w3 a' ha hle hW hd hv K hK
        have q4 : a'.tmps[4]? = some (.pointer (some ⟨bf, 0, none⟩)) := slot_old ha (by kernel_rfl) (by kernel_rfl)
        have hc := Hf.out w3 hW.keep
        refine step_value (v := .pointer (some ⟨id, 0, none⟩)) (w2 := w3) ?_ (hK _ _ (Grow.refl _) rfl)
        go_simp
      · refine stageOf_mem (t := 0) rfl ?_
        intro us vals w3 a' ha hle hW hd hv
        obtain ⟨d3, d4, d5, _, _, _, _, _, _, _⟩ := hd
        obtain rfl := List.eq_nil_of_length_eq_zero (Nat.le_zero.1 (show vals.length ≤ 0 from Nat.le_of_eq hv))
        refine ⟨wanted_none rfl, fun K hK => ?_⟩
        have q21 : a'.tmps[21]? = some (us 3) := slot_get ha 3 (by kernel_rfl) (by kernel_rfl)
        rw [show us 3 = .map (some mb) from d3] at q21
        have q22 : a'.tmps[22]? = some (us 4) := slot_get ha 4 (by kernel_rfl) (by kernel_rfl)
        rw [show us 4 = .string name from d4] at q22
        have q23 : a'.tmps[23]? = some (us 5) := slot_get ha 5 (by kernel_rfl) (by kernel_rfl)
        rw [show us 5 = .pointer (some ⟨id, 0, none⟩) from d5] at q23
        obtain ⟨w6, hrun, hm6, hk6⟩ := hW.1.put name (by assumption) (by assumption) id
        exact wp_update 46 21 22 23 rfl q21 q22 q23 hrun (hK _ _ hk6 ⟨hm6, hW.2.trans' hk6⟩)
    · intro us vals w7 hle hvl hW ht hf
      obtain ⟨v, rfl⟩ := List.length_eq_one_iff.1 hvl
      refine Go.Great.bodyPost_end0 rfl rfl ?_
      exact ⟨rfl, hW.1.more (by omega), hW.2⟩
  | some wid =>
    have hci : w6.cell? ⟨bi, 0, none⟩ = some (.bool true) := hci
    have Hw := Lib.hid (show ∀ W, Keep (fun j => j = mb) wr W → W.cell? ⟨bw, 0, none⟩ = some (pg wid) from Hw.out)
    go_upto_region 2 with (fail)
    go_cut [] from 12 to 17 (fun wx => ∃ W : World, W = wx ∧ FMapAt W mb (n + 1) (putF (putF M tn.data.toList none) tn.data.toList (some wid)) ∧ Keep (fun j => j = mb) wr W)
    case first Jx Kx hJx hMx =>
      refine wp_region_stages (by kernel_rfl) ?_
      refine anyOrder_start [6] (Keep (fun j => j = mb)) (mapW wr mb n (n + 1) (putF M tn.data.toList none) (putF (putF M tn.data.toList none) tn.data.toList (some wid))) (FactsOn [.is (.pointer (some ⟨g, 0, none⟩)), .is (.pointer (some ⟨g, 0, none⟩)), .is (.pointer (some ⟨g, 1, none⟩)), .is (.map (some mb)), .is (.string tn), .is (.pointer (some ⟨wid, 0, none⟩)), .any]) (fun i => 99) keep_trans keep_grow (mapW.grow) (factsOn_mono _) (by kernel_rfl) (by kernel_rfl) ⟨Hm6.out, Hk6.out⟩ ?_ ?_
      · refine ⟨?_, ?_, ?_, ?_, ?_, ?_, ?_, trivial⟩
        · refine stageOf_free rfl (fun _ _ _ _ _ _ => wanted_none rfl) ?_
          intro us vals w3 a' ha hle hW hd hv K hK
          have q0 : a'.tmps[0]? = some (.pointer (some ⟨bd, 0, none⟩)) := slot_old ha (by kernel_rfl) (by kernel_rfl)
          have hc := Hd.out w3 hW.keep
          refine step_value (v := .pointer (some ⟨g, 0, none⟩)) (w2 := w3) ?_ (hK _ _ (Grow.refl _) rfl)
          go_simp
        · refine stageOf_free rfl (fun _ _ _ _ _ _ => wanted_none rfl) ?_
          intro us vals w3 a' ha hle hW hd hv K hK
          obtain ⟨d0, _⟩ := hd
          have q12 : a'.tmps[12]? = some (us 0) := slot_get ha 0 (by kernel_rfl) (by kernel_rfl)
          rw [show us 0 = .pointer (some ⟨g, 0, none⟩) from d0] at q12
          refine step_value (v := .pointer (some ⟨g, 0, none⟩)) (w2 := w3) ?_ (hK _ _ (Grow.refl _) rfl)
          go_simp
        · refine stageOf_free rfl (fun _ _ _ _ _ _ => wanted_none rfl) ?_
          intro us vals w3 a' ha hle hW hd hv K hK
          obtain ⟨d1, _⟩ := hd
          have q13 : a'.tmps[13]? = some (us 1) := slot_get ha 1 (by kernel_rfl) (by kernel_rfl)
          rw [show us 1 = .pointer (some ⟨g, 0, none⟩) from d1] at q13
          refine step_value (v := .pointer (some ⟨g, 1, none⟩)) (w2 := w3) ?_ (hK _ _ (Grow.refl _) rfl)
          go_simp
        · refine stageOf_free rfl (fun _ _ _ _ _ _ => wanted_none rfl) ?_
          intro us vals w3 a' ha hle hW hd hv K hK
          obtain ⟨d2, _⟩ := hd
          have q14 : a'.tmps[14]? = some (us 2) := slot_get ha 2 (by kernel_rfl) (by kernel_rfl)
          rw [show us 2 = .pointer (some ⟨g, 1, none⟩) from d2] at q14
          have hc := Hm.out w3 hW.keep
          refine step_value (v := .map (some mb)) (w2 := w3) ?_ (hK _ _ (Grow.refl _) rfl)
          go_simp
        · refine stageOf_free rfl (fun _ _ _ _ _ _ => wanted_none rfl) ?_
          intro us vals w3 a' ha hle hW hd hv K hK
          have q1 : a'.tmps[1]? = some (.pointer (some ⟨bt, 0, none⟩)) := slot_old ha (by kernel_rfl) (by kernel_rfl)
          have hc := Ht.out w3 hW.keep
          refine step_value (v := .string tn) (w2 := w3) ?_ (hK _ _ (Grow.refl _) rfl)
          go_simp
        · refine stageOf_free rfl (fun _ _ _ _ _ _ => wanted_none rfl) ?_
          intro us vals w3 a' ha hle hW hd hv K hK
          have q3 : a'.tmps[3]? = some (.pointer (some ⟨bw, 0, none⟩)) := slot_old ha (by kernel_rfl) (by kernel_rfl)
          have hc := Hw.out w3 hW.keep
          refine step_value (v := .pointer (some ⟨wid, 0, none⟩)) (w2 := w3) ?_ (hK _ _ (Grow.refl _) rfl)
          go_simp
        · refine stageOf_mem (t := 0) rfl ?_
          intro us vals w3 a' ha hle hW hd hv
          obtain ⟨d3, d4, d5, _, _, _, _, _, _, _⟩ := hd
          obtain rfl := List.eq_nil_of_length_eq_zero (Nat.le_zero.1 (show vals.length ≤ 0 from Nat.le_of_eq hv))
          refine ⟨wanted_none rfl, fun K hK => ?_⟩
          have q15 : a'.tmps[15]? = some (us 3) := slot_get ha 3 (by kernel_rfl) (by kernel_rfl)
          rw [show us 3 = .map (some mb) from d3] at q15
          have q16 : a'.tmps[16]? = some (us 4) := slot_get ha 4 (by kernel_rfl) (by kernel_rfl)
          rw [show us 4 = .string tn from d4] at q16
          have q17 : a'.tmps[17]? = some (us 5) := slot_get ha 5 (by kernel_rfl) (by kernel_rfl)
          rw [show us 5 = .pointer (some ⟨wid, 0, none⟩) from d5] at q17
          obtain ⟨w6, hrun, hm6, hk6⟩ := hW.1.put tn (by assumption) (by assumption) wid
          exact wp_update 46 15 16 17 rfl q15 q16 q17 hrun (hK _ _ hk6 ⟨hm6, hW.2.trans' hk6⟩)
      · intro us vals w7 hle hvl hW ht hf
        obtain ⟨x, rfl⟩ := List.length_eq_one_iff.1 hvl
        exact hMx _ _ (Met.intro (hJx _ _ ⟨us 0, us 1, us 2, us 3, us 4, us 5, ⟨_, rfl, hW.1, hW.2⟩, by kernel_rfl⟩))
    case rest =>
    obtain ⟨w7, rfl, hm7, hk7⟩ := hcut
    rw [putF_twice] at hm7
    have Hm7 := Lib.hid hm7
    have Hk7 := Lib.hid hk7
    clear hm7 hk7 Hm6 Hk6 hci
    go_upto_region 3 with (fail)
    refine wp_region_stages (by kernel_rfl) ?_
    refine anyOrder_start [6] (Keep (fun j => j = mb)) (mapW wr mb (n + 1) (n + 1 + 1) (putF M tn.data.toList (some wid)) (putF (putF M tn.data.toList (some wid)) name.data.toList (some id))) (FactsOn [.is (.pointer (some ⟨g, 0, none⟩)), .is (.pointer (some ⟨g, 0, none⟩)), .is (.pointer (some ⟨g, 1, none⟩)), .is (.map (some mb)), .is (.string name), .is (.pointer (some ⟨id, 0, none⟩)), .any]) (fun i => 99) keep_trans keep_grow (mapW.grow) (factsOn_mono _) (by kernel_rfl) (by kernel_rfl) ⟨Hm7.out, Hk7.out⟩ ?_ ?_
    · refine ⟨?_, ?_, ?_, ?_, ?_, ?_, ?_, trivial⟩
      · refine stageOf_free rfl (fun _ _ _ _ _ _ => wanted_none rfl) ?_
        intro us vals w3 a' ha hle hW hd hv K hK
        have q0 : a'.tmps[0]? = some (.pointer (some ⟨bd, 0, none⟩)) := slot_old ha (by kernel_rfl) (by kernel_rfl)
        have hc := Hd.out w3 hW.keep
        refine step_value (v := .pointer (some ⟨g, 0, none⟩)) (w2 := w3) ?_ (hK _ _ (Grow.refl _) rfl)
        go_simp
      · refine stageOf_free rfl (fun _ _ _ _ _ _ => wanted_none rfl) ?_
        intro us vals w3 a' ha hle hW hd hv K hK
        obtain ⟨d0, _⟩ := hd
        have q18 : a'.tmps[18]? = some (us 0) := slot_get ha 0 (by kernel_rfl) (by kernel_rfl)
        rw [show us 0 = .pointer (some ⟨g, 0, none⟩) from d0] at q18
        refine step_value (v := .pointer (some ⟨g, 0, none⟩)) (w2 := w3) ?_ (hK _ _ (Grow.refl _) rfl)
        go_simp
      · refine stageOf_free rfl (fun _ _ _ _ _ _ => wanted_none rfl) ?_
        intro us vals w3 a' ha hle hW hd hv K hK
        obtain ⟨d1, _⟩ := hd
        have q19 : a'.tmps[19]? = some (us 1) := slot_get ha 1 (by kernel_rfl) (by kernel_rfl)
        rw [show us 1 = .pointer (some ⟨g, 0, none⟩) from d1] at q19
        refine step_value (v := .pointer (some ⟨g, 1, none⟩)) (w2 := w3) ?_ (hK _ _ (Grow.refl _) rfl)
        go_simp
      · refine stageOf_free rfl (fun _ _ _ _ _ _ => wanted_none rfl) ?_
        intro us vals w3 a' ha hle hW hd hv K hK
        obtain ⟨d2, _⟩ := hd
        have q20 : a'.tmps[20]? = some (us 2) := slot_get ha 2 (by kernel_rfl) (by kernel_rfl)
        rw [show us 2 = .pointer (some ⟨g, 1, none⟩) from d2] at q20
        have hc := Hm.out w3 hW.keep
        refine step_value (v := .map (some mb)) (w2 := w3) ?_ (hK _ _ (Grow.refl _) rfl)
        go_simp
      · refine stageOf_free rfl (fun _ _ _ _ _ _ => wanted_none rfl) ?_
        intro us vals w3 a' ha hle hW hd hv K hK
        have q5 : a'.tmps[5]? = some (.pointer (some ⟨bn, 0, none⟩)) := slot_old ha (by kernel_rfl) (by kernel_rfl)
        have hc := Hn.out w3 hW.keep
        refine step_value (v := .string name) (w2 := w3) ?_ (hK _ _ (Grow.refl _) rfl)
        go_simp
      · refine stageOf_free rfl (fun _ _ _ _ _ _ => wanted_none rfl) ?_
        intro us vals w3 a' ha hle hW hd hv K hK
        have q4 : a'.tmps[4]? = some (.pointer (some ⟨bf, 0, none⟩)) := slot_old ha (by kernel_rfl) (by kernel_rfl)
        have hc := Hf.out w3 hW.keep
        refine step_value (v := .pointer (some ⟨id, 0, none⟩)) (w2 := w3) ?_ (hK _ _ (Grow.refl _) rfl)
        go_simp
      · refine stageOf_mem (t := 0) rfl ?_
        intro us vals w3 a' ha hle hW hd hv
        obtain ⟨d3, d4, d5, _, _, _, _, _, _, _⟩ := hd
        obtain rfl := List.eq_nil_of_length_eq_zero (Nat.le_zero.1 (show vals.length ≤ 0 from Nat.le_of_eq hv))
        refine ⟨wanted_none rfl, fun K hK => ?_⟩
        have q21 : a'.tmps[21]? = some (us 3) := slot_get ha 3 (by kernel_rfl) (by kernel_rfl)
        rw [show us 3 = .map (some mb) from d3] at q21
        have q22 : a'.tmps[22]? = some (us 4) := slot_get ha 4 (by kernel_rfl) (by kernel_rfl)
        rw [show us 4 = .string name from d4] at q22
        have q23 : a'.tmps[23]? = some (us 5) := slot_get ha 5 (by kernel_rfl) (by kernel_rfl)
        rw [show us 5 = .pointer (some ⟨id, 0, none⟩) from d5] at q23
        obtain ⟨w6, hrun, hm6, hk6⟩ := hW.1.put name (by assumption) (by assumption) id
        exact wp_update 46 21 22 23 rfl q21 q22 q23 hrun (hK _ _ hk6 ⟨hm6, hW.2.trans' hk6⟩)
    · intro us vals w8 hle hvl hW ht hf
      obtain ⟨v, rfl⟩ := List.length_eq_one_iff.1 hvl
      refine Go.Great.bodyPost_end0 rfl rfl ?_
      exact ⟨rfl, hW.1, hW.2⟩
/-- a file gets another name -/
def St.rename (S : St) (a b : List UInt8) (id : Nat) : St := if a = b then S.more else S.more.wait (putF (putF S.cur a none) b (some id))
theorem Wf.more {S : St} (h : Wf S) : Wf S.more := ⟨h.nodup, h.safe, h.refs, h.inj, h.armed, h.full, h.lens⟩
theorem Wf.rename {S : St} (h : Wf S) {a b : List UInt8} {id : Nat} (hid : S.cur a = some id) : Wf (S.rename a b id) := by
  unfold St.rename
  split
  · exact h.more
  · rename_i hab
    have hi := h.refs _ (St.cur_all S) _ _ hid
    have hne : ∀ x, x ≠ a → S.cur x ≠ some id := fun x hx e => hx (h.inj _ (St.cur_all S) _ _ _ e hid)
    refine h.more.wait (fun x i hx => ?_) (fun x y i hx hy => ?_)
    · by_cases e : x = b
      · subst e
        rw [putF_self] at hx
        injection hx with hx
        subst hx
        exact hi
      · rw [putF_ne _ _ e] at hx
        by_cases e2 : x = a
        · rw [e2, putF_self] at hx; cases hx
        · rw [putF_ne _ _ e2] at hx
          exact h.refs _ (St.cur_all S) _ _ hx
    · have key : ∀ z, putF (putF S.cur a none) b (some id) z = some i → (z = b ∧ i = id) ∨ (S.cur z = some i ∧ z ≠ a) := fun z hz => by
        by_cases e : z = b
        · subst e
          rw [putF_self] at hz
          injection hz with hz
          exact Or.inl ⟨rfl, hz.symm⟩
        · rw [putF_ne _ _ e] at hz
          by_cases e2 : z = a
          · rw [e2, putF_self] at hz; cases hz
          · rw [putF_ne _ _ e2] at hz
            exact Or.inr ⟨hz, e2⟩
      rcases key x hx with ⟨e1, e2⟩ | ⟨e1, e2⟩
      · rcases key y hy with ⟨e3, e4⟩ | ⟨e3, e4⟩
        · rw [e1, e3]
        · rw [e2] at e3
          exact absurd e3 (hne y e4)
      · rcases key y hy with ⟨e3, e4⟩ | ⟨e3, e4⟩
        · rw [e4] at e1
          exact absurd e1 (hne x e2)
        · exact h.inj _ (St.cur_all S) _ _ _ e1 e3
theorem putF_rename {M : FM} {a b : List UInt8} {id : Nat} (h : M a = some id) (hab : a ≠ b) : putF (putF (putF (putF M a none) b (some id)) b (M b)) a (some id) = M := by
  funext x
  by_cases e : x = a
  · subst e
    rw [putF_self, h]
  · rw [putF_ne _ _ e]
    by_cases e2 : x = b
    · subst e2
      rw [putF_self]
    · rw [putF_ne _ _ e2, putF_ne _ _ e2, putF_ne _ _ e]
theorem wp_store1 {P : Program} {o : Oper} {Q : Exit → Act → World → Prop} {a : Act} {w w' : World} {K : Act → World → Prop} (ty : TypeId) (s1 s2 : Nat) (ho : o.op = .store ty (.tmp s1) (.tmp s2)) {u1 u2 : Value} (h1 : a.tmps[s1]? = some u1) (h2 : a.tmps[s2]? = some u2)
    (hr : (Instr.storeAt ty u1 u2).run P w = .ok () w') (h : K (a.put o.dst undef) w') : o.wp P a w K Q := by
  unfold Oper.wp execOp
  simp only [ho, Sem.run_bind, evalT h1, evalT h2, hr, Result.andThen_ok, Sem.run_pure]
  exact h
theorem lastQ.store1 {P : Program} {o : Oper} {Q : Exit → Act → World → Prop} {a : Act} {w w' : World} (ty : TypeId) (s1 s2 : Nat) (ho : o.op = .store ty (.tmp s1) (.tmp s2)) {u1 u2 : Value} (h1 : a.tmps[s1]? = some u1) (h2 : a.tmps[s2]? = some u2)
    (hr : (Instr.storeAt ty u1 u2).run P w = .ok () w') (h : Q .normal (a.put o.dst undef) w') : lastQ P o Q .normal a w := Or.inl ⟨rfl, wp_store1 ty s1 s2 ho h1 h2 hr h⟩
/-- two boxes are made, the first one is filled -/
def boxW (w0 : World) (lv : Value) : List Value → World → Prop
  | [], w => Keep (fun _ => False) w0 w
  | [v], w => ∃ m : Nat, v = .pointer (some ⟨m, 0, none⟩) ∧ w0.heap.size ≤ m ∧ Blk w m 53 #[.pointer none] ∧ Keep (fun _ => False) w0 w
  | [v, _], w => ∃ m : Nat, v = .pointer (some ⟨m, 0, none⟩) ∧ w0.heap.size ≤ m ∧ Blk w m 53 #[lv] ∧ Keep (fun _ => False) w0 w
  | _, _ => False
theorem boxW.grow {w0 : World} {lv : Value} : ∀ (vals : List Value) (x y : World), Grow x y → boxW w0 lv vals x → boxW w0 lv vals y
  | [], _, _, g, h => h.trans' (Keep.grow g)
  | [_], _, _, g, ⟨m, h1, h2, h3, h4⟩ => ⟨m, h1, h2, h3.below g h3.lt, h4.trans' (Keep.grow g)⟩
  | [_, _], _, _, g, ⟨m, h1, h2, h3, h4⟩ => ⟨m, h1, h2, h3.below g h3.lt, h4.trans' (Keep.grow g)⟩
  | _ :: _ :: _ :: _, _, _, _, h => h
theorem boxW.keep {w0 w : World} {lv : Value} : ∀ {vals : List Value}, boxW w0 lv vals w → Keep (fun _ => False) w0 w
  | [], h => h
  | [_], ⟨_, _, _, _, h⟩ => h
  | [_, _], ⟨_, _, _, _, h⟩ => h
  | _ :: _ :: _ :: _, h => h.elim
/-- what lasts while it is filled -/
def BoolLe (B : Nat) (x y : World) : Prop := x.heap.size ≤ y.heap.size ∧ ∀ k cs, Blk x k 4 cs → Blk y k 4 cs
theorem BoolLe.trans (B : Nat) (x y z : World) (h : BoolLe B x y) (h' : BoolLe B y z) : BoolLe B x z := ⟨Nat.le_trans h.1 h'.1, fun k cs hb => h'.2 k cs (h.2 k cs hb)⟩
theorem BoolLe.grow (B : Nat) (x y : World) (h : Grow x y) : BoolLe B x y := ⟨h.size, fun k cs hb => hb.below h hb.lt⟩
def FactOn.newB (B B0 : Nat) : FactOn (BoolLe B) :=
  ⟨fun u w => ∃ m, u = .pointer (some ⟨m, 0, none⟩) ∧ B0 ≤ m ∧ Blk w m 4 #[.bool false], fun _ _ _ hk ⟨m, h1, h2, h3⟩ => ⟨m, h1, h2, hk.2 _ _ h3⟩⟩
set_option maxRecDepth 100000 in
set_option maxHeartbeats 4000000 in
theorem vRename1_any (w : World) (g base : Nat) (room : Int) (S : St) (mb : Nat) (uv : Value) (fs : List Value) (t c : Int) (rv : Nat → Value) (h : VX w g base room S S.cur mb uv fs t c rv) (hb : base ≤ w.heap.size) (id bd bt bn : Nat) (tn name : ByteArray) (hbn : Blk w bn 9 #[.string name]) (hbt : Blk w bt 9 #[.string tn]) (hbd : Blk w bd 25 #[pg g])
    (hs : name.size ≤ maxLen) (hts : tn.size ≤ maxLen) (hid : S.cur name.data.toList = some id) (hm : S.maps.length ≤ 1000000) (hnm : S.n < maxLen) :
    Calls Try.prog 30 #[pg id, pg bn, pg bt, pg bd] w fun e w' => e = .returned (.int .i64 0) ∧ (∃ uv' fs', VX w' g base room (S.rename name.data.toList tn.data.toList id) (S.rename name.data.toList tn.data.toList id).cur mb uv' fs' t c rv) ∧ Below base w w' := by
  obtain ⟨w2, hw2⟩ : ∃ w2, w.alloc (.cells #[pg id] 53) = w2 := ⟨_, rfl⟩
  have hg2 : Grow w w2 := by rw [← hw2]; exact Grow.alloc _ _
  have hbf : Blk w2 w.heap.size 53 #[pg id] := by rw [← hw2]; exact Blk.new _ _ _
  have hx2 := h.grow hg2
  have hbd := hbd.below hg2 hbd.lt
  have hbt := hbt.below hg2 hbt.lt
  have hbn := hbn.below hg2 hbn.lt
  have hb2 : base ≤ w2.heap.size := Nat.le_trans hb hg2.size
  have Hd := Lib.hid (show ∀ W, Keep (fun _ => False) w2 W → W.cell? ⟨bd, 0, none⟩ = some (pg g) from fun W h => (h.blk hbd (fun e => e)).cell 0)
  have Ht := Lib.hid (show ∀ W, Keep (fun _ => False) w2 W → W.cell? ⟨bt, 0, none⟩ = some (.string tn) from fun W h => (h.blk hbt (fun e => e)).cell 0)
  have Hm := Lib.hid (show ∀ W, Keep (fun _ => False) w2 W → W.cell? ⟨g, 1, none⟩ = some (.map (some mb)) from fun W h => (h.blk hx2.disk (fun e => e)).cell 1)
  have hcn := hbn.cell 0
  have hct := hbt.cell 0
  have Hbel2 := Lib.hid (Below.mono hg2 hb)
  have Hx2 := Lib.hid hx2
  have Hbf := Lib.hid hbf
  have Hbd := Lib.hid hbd
  have Hbt := Lib.hid hbt
  have Hbn := Lib.hid hbn
  have Hid := Lib.hid hid
  clear h hg2 hbf hx2 hbd hbt hbn hid
  by_cases hq : name.data.toList = tn.data.toList
  · have hqb : (name.toList == tn.toList) = true := by simp [Lib.toList_data, hq]
    have Hq := Lib.hid hq
    clear hq
    go_enter Try.func30, Try.ntmps30
    go_upto_region 1 with (fail)
    (try rw [hw2])
    clear hw2
    go_wp2_with fail
    go_ret
    refine ⟨rfl, ⟨uv, fs, ?_⟩, Hbel2.out⟩
    unfold St.rename
    rw [if_pos Hq.out]
    exact Hx2.out.turned (S' := S.more) (Keep.refl _ _) (Hx2.out.map.more (Nat.le_succ _)) rfl rfl rfl rfl rfl rfl rfl
  have hqb : (name.toList == tn.toList) = false := by rw [Lib.toList_data, Lib.toList_data]; exact beq_eq_false_iff_ne.2 hq
  have Hq := Lib.hid hq
  clear hq
  obtain ⟨lv, hlv⟩ : ∃ lv : Value, lv = pf (S.cur tn.data.toList) := ⟨_, rfl⟩
  obtain ⟨lb, hlb⟩ : ∃ lb : Bool, lb = (S.cur tn.data.toList).isSome := ⟨_, rfl⟩
  have Hlk := Lib.hid (show ∀ W, Keep (fun _ => False) w2 W → (Instr.lookup 46 (.map (some mb)) (.string tn) true).run Try.prog W = .ok (.tuple #[lv, .bool lb]) W from fun W h => by
    rw [hlv, hlb]
    exact (Hx2.out.map.keep h (fun e => e)).look tn hts)
  have Hlv := Lib.hid hlv
  have Hlb := Lib.hid hlb
  have Hst := Lib.hid (show ∀ (W : World) (m : Nat) (u : Value), W.cell? ⟨m, 0, none⟩ = some u → W.frozen? ⟨m, 0, none⟩ = false → (Instr.storeAt 53 (.pointer (some ⟨m, 0, none⟩)) lv).run Try.prog W = .ok () (W.setCell ⟨m, 0, none⟩ lv) from fun W m u hc hz => by
    rw [hlv]
    unfold pf
    go_simp)
  have Hst2 := Lib.hid (show ∀ (W : World) (m : Nat) (u : Value), W.cell? ⟨m, 0, none⟩ = some u → W.frozen? ⟨m, 0, none⟩ = false → (Instr.storeAt 4 (.pointer (some ⟨m, 0, none⟩)) (.bool lb)).run Try.prog W = .ok () (W.setCell ⟨m, 0, none⟩ (.bool lb)) from fun W m u hc hz => by
    go_simp)
  clear hlv hlb
  go_enter Try.func30, Try.ntmps30
  go_upto_region 1 with (fail)
  (try rw [hw2])
  clear hw2
  go_upto_region 3 with (fail)
  go_cut [6, 7] from 11 to 19 (fun v6 v7 wx => ∃ (W : World) (m1 m2 : Nat), W = wx ∧ v6 = pg m1 ∧ v7 = pg m2 ∧ Blk W m1 53 #[lv] ∧ Blk W m2 4 #[.bool lb] ∧ Keep (fun _ => False) w2 W)
  case first Jx Kx hJx hMx =>
    refine wp_region_stages (by kernel_rfl) ?_
    refine anyOrder_pop rfl (by kernel_rfl) ?_
    refine anyOrder_start [9, 11] (BoolLe 0) (boxW w2 lv) (FactsOn [.is (.pointer (some ⟨g, 0, none⟩)), .is (.pointer (some ⟨g, 0, none⟩)), .is (.pointer (some ⟨g, 1, none⟩)), .is (.map (some mb)), .is (.string tn), .is (.tuple #[lv, .bool lb]), .is (.tuple #[lv, .bool lb]), .is (lv), .is (.bool lb), .any, .newB 0 w2.heap.size, .any]) (fun i => 99) (BoolLe.trans 0) (BoolLe.grow 0) (boxW.grow) (factsOn_mono _) (by kernel_rfl) (by kernel_rfl) (Keep.refl _ _) ?_ ?_
    · refine ⟨?_, ?_, ?_, ?_, ?_, ?_, ?_, ?_, ?_, ?_, ?_, ?_, trivial⟩
      · refine stageOf_free rfl (fun _ _ _ _ _ _ => wanted_none rfl) ?_
        intro us vals w3 a' ha hle hW hd hv K hK
        have q3 : a'.tmps[3]? = some (.pointer (some ⟨bd, 0, none⟩)) := slot_old ha (by kernel_rfl) (by kernel_rfl)
        have hc := Hd.out w3 hW.keep
        refine step_value (v := .pointer (some ⟨g, 0, none⟩)) (w2 := w3) ?_ (hK _ _ (Grow.refl _) rfl)
        go_simp
      · refine stageOf_free rfl (fun _ _ _ _ _ _ => wanted_none rfl) ?_
        intro us vals w3 a' ha hle hW hd hv K hK
        obtain ⟨d0, _⟩ := hd
        have q12 : a'.tmps[12]? = some (us 0) := slot_get ha 0 (by kernel_rfl) (by kernel_rfl)
        rw [show us 0 = .pointer (some ⟨g, 0, none⟩) from d0] at q12
        refine step_value (v := .pointer (some ⟨g, 0, none⟩)) (w2 := w3) ?_ (hK _ _ (Grow.refl _) rfl)
        go_simp
      · refine stageOf_free rfl (fun _ _ _ _ _ _ => wanted_none rfl) ?_
        intro us vals w3 a' ha hle hW hd hv K hK
        obtain ⟨d1, _⟩ := hd
        have q13 : a'.tmps[13]? = some (us 1) := slot_get ha 1 (by kernel_rfl) (by kernel_rfl)
        rw [show us 1 = .pointer (some ⟨g, 0, none⟩) from d1] at q13
        refine step_value (v := .pointer (some ⟨g, 1, none⟩)) (w2 := w3) ?_ (hK _ _ (Grow.refl _) rfl)
        go_simp
      · refine stageOf_free rfl (fun _ _ _ _ _ _ => wanted_none rfl) ?_
        intro us vals w3 a' ha hle hW hd hv K hK
        obtain ⟨d2, _⟩ := hd
        have q14 : a'.tmps[14]? = some (us 2) := slot_get ha 2 (by kernel_rfl) (by kernel_rfl)
        rw [show us 2 = .pointer (some ⟨g, 1, none⟩) from d2] at q14
        have hc := Hm.out w3 hW.keep
        refine step_value (v := .map (some mb)) (w2 := w3) ?_ (hK _ _ (Grow.refl _) rfl)
        go_simp
      · refine stageOf_free rfl (fun _ _ _ _ _ _ => wanted_none rfl) ?_
        intro us vals w3 a' ha hle hW hd hv K hK
        have q2 : a'.tmps[2]? = some (.pointer (some ⟨bt, 0, none⟩)) := slot_old ha (by kernel_rfl) (by kernel_rfl)
        have hc := Ht.out w3 hW.keep
        refine step_value (v := .string tn) (w2 := w3) ?_ (hK _ _ (Grow.refl _) rfl)
        go_simp
      · refine stageOf_free rfl (fun _ _ _ _ _ _ => wanted_none rfl) ?_
        intro us vals w3 a' ha hle hW hd hv K hK
        obtain ⟨d3, d4, _⟩ := hd
        have q15 : a'.tmps[15]? = some (us 3) := slot_get ha 3 (by kernel_rfl) (by kernel_rfl)
        rw [show us 3 = .map (some mb) from d3] at q15
        have q16 : a'.tmps[16]? = some (us 4) := slot_get ha 4 (by kernel_rfl) (by kernel_rfl)
        rw [show us 4 = .string tn from d4] at q16
        refine step_value (v := .tuple #[lv, .bool lb]) (w2 := w3) ?_ (hK _ _ (Grow.refl _) rfl)
        have hl := Hlk.out w3 hW.keep
        go_simp
      · refine stageOf_free rfl (fun _ _ _ _ _ _ => wanted_none rfl) ?_
        intro us vals w3 a' ha hle hW hd hv K hK
        obtain ⟨d5, _⟩ := hd
        have q17 : a'.tmps[17]? = some (us 5) := slot_get ha 5 (by kernel_rfl) (by kernel_rfl)
        rw [show us 5 = .tuple #[lv, .bool lb] from d5] at q17
        exact step_value (w2 := w3) (by go_simp) (hK _ _ (Grow.refl _) rfl)
      · refine stageOf_free rfl (fun _ _ _ _ _ _ => wanted_none rfl) ?_
        intro us vals w3 a' ha hle hW hd hv K hK
        obtain ⟨d6, _⟩ := hd
        have q11 : a'.tmps[11]? = some (us 6) := slot_get ha 6 (by kernel_rfl) (by kernel_rfl)
        rw [show us 6 = .tuple #[lv, .bool lb] from d6] at q11
        refine step_value (v := lv) (w2 := w3) ?_ (hK _ _ (Grow.refl _) rfl)
        go_simp
      · refine stageOf_free rfl (fun _ _ _ _ _ _ => wanted_none rfl) ?_
        intro us vals w3 a' ha hle hW hd hv K hK
        obtain ⟨d6, _⟩ := hd
        have q11 : a'.tmps[11]? = some (us 6) := slot_get ha 6 (by kernel_rfl) (by kernel_rfl)
        rw [show us 6 = .tuple #[lv, .bool lb] from d6] at q11
        refine step_value (v := .bool lb) (w2 := w3) ?_ (hK _ _ (Grow.refl _) rfl)
        go_simp
      · refine stageOf_mem (t := 0) rfl ?_
        intro us vals w3 a' ha hle hW hd hv
        obtain rfl := List.eq_nil_of_length_eq_zero (Nat.le_zero.1 (show vals.length ≤ 0 from Nat.le_of_eq hv))
        refine ⟨wanted_none rfl, fun K hK => ?_⟩
        refine step_value (v := .pointer (some ⟨w3.heap.size, 0, none⟩)) (w2 := w3.alloc (.cells #[.pointer none] 53)) (by go_simp) (hK _ _ (BoolLe.grow _ _ _ (Grow.alloc _ _)) ⟨w3.heap.size, rfl, (show Keep _ w2 w3 from hW).size, Blk.new _ _ _, (show Keep _ w2 w3 from hW).trans' (Keep.alloc w3 _)⟩)
      · refine stageOf_free rfl (fun _ _ _ _ _ _ => wanted_none rfl) ?_
        intro us vals w3 a' ha hle hW hd hv K hK
        exact step_value (v := .pointer (some ⟨w3.heap.size, 0, none⟩)) (w2 := w3.alloc (.cells #[.bool false] 4)) (by go_simp) (hK _ _ (Grow.alloc _ _) ⟨w3.heap.size, rfl, hW.keep.size, Blk.new _ _ _⟩)
      · refine stageOf_mem (t := 1) rfl ?_
        intro us vals w3 a' ha hle hW hd hv
        obtain ⟨d9, d7, _, _, _, _, _, _, _, _, _, _, _⟩ := hd
        obtain ⟨x0, rfl⟩ := List.length_eq_one_iff.1 hv
        obtain rfl : us 9 = x0 := by have h0 : some x0 = some (us 9) := d9; injection h0 with h0; exact h0.symm
        refine ⟨wanted_none rfl, fun K hK => ?_⟩
        have q6 : a'.tmps[6]? = some (us 9) := slot_get ha 9 (by kernel_rfl) (by kernel_rfl)
        have q18 : a'.tmps[18]? = some (us 7) := slot_get ha 7 (by kernel_rfl) (by kernel_rfl)
        rw [show us 7 = lv from d7] at q18
        obtain ⟨m, hm1, hm2, hm3, hm4⟩ := hW
        rw [hm1] at q6
        have hks : Keep (fun j => j = m) w3 (w3.setCell ⟨m, 0, none⟩ lv) := Keep.setCell w3 ⟨m, 0, none⟩ _
        exact wp_store1 53 6 18 rfl q6 q18 (Hst.out w3 m _ (hm3.cell 0) (hm3.frozen 0)) (hK _ _ ⟨hks.size, fun k cs hb => hks.blk hb (fun e => by have e : k = m := e; subst e; have := (show w3.heap[k]? = _ from hm3).symm.trans hb; injection this with this; injection this with _ this _; exact absurd this (by decide))⟩ ⟨m, hm1, hm2, hm3.set 0 _, hm4.trans hks fun j hj => Or.inr (by rw [hj]; exact hm2)⟩)
    · intro us vals w5 hle hvl hW hch hf
      obtain ⟨x, y, rfl⟩ : ∃ x y, vals = [x, y] := by
        match vals, hvl with
        | [x, y], _ => exact ⟨x, y, rfl⟩
      obtain ⟨m1, h1, h2, h3, h4⟩ := hW
      obtain ⟨m2, h5, h6, h7⟩ : ∃ m, us 10 = .pointer (some ⟨m, 0, none⟩) ∧ w2.heap.size ≤ m ∧ Blk w5 m 4 #[.bool false] := hf 10 (by decide) rfl
      have h8 : us 8 = .bool lb := hf 8 (by decide) rfl
      have h9 : us 9 = .pointer (some ⟨m1, 0, none⟩) := by
        have := hch 0 (Nat.zero_lt_succ _)
        rw [← h1]
        injection this with this
        exact this.symm
      have h12 : ¬ (m1 = m2) := fun e => by
        subst e
        have := (show w5.heap[m1]? = _ from h3).symm.trans h7
        injection this with this
        injection this with _ this _
        exact absurd this (by decide)
      have hrun : (Instr.storeAt 4 (us 10) (us 8)).run Try.prog w5 = .ok () (w5.setCell ⟨m2, 0, none⟩ (.bool lb)) := by
        rw [h5, h8]
        exact Hst2.out w5 m2 _ (h7.cell 0) (h7.frozen 0)
      refine lastQ.store1 4 7 19 rfl (u1 := us 10) (u2 := us 8) (by kernel_rfl) (by kernel_rfl) hrun ?_
      have hks : Keep (fun j => j = m2) w5 (w5.setCell ⟨m2, 0, none⟩ (.bool lb)) := Keep.setCell w5 ⟨m2, 0, none⟩ _
      exact hMx _ _ (Met.intro (hJx _ _ ⟨us 9, us 10, us 6, us 0, us 1, us 2, us 3, us 4, us 5, us 7, us 8, ⟨_, m1, m2, rfl, h9, h5, hks.blk h3 h12, h7.set 0 _, h4.trans hks fun j hj => Or.inr (by rw [hj]; exact h6)⟩, by kernel_rfl⟩))
  case rest =>
  obtain ⟨w6, m1, m2, rfl, rfl, rfl, hb1, hb2', hk6⟩ := hcut
  have hnm0 : S.n < maxLen := hnm
  have hx6 : VX w6 g base room S S.cur mb uv fs t c rv := Hx2.out.keep hk6 (fun h => h) (fun h => h) (fun _ _ h => h) (fun _ _ h => h) (fun _ _ _ _ h => h) (BoxKeep.keep hk6 fun _ _ _ h => h.elim)
  have hbd6 := hk6.blk Hbd.out (fun h => h)
  have hbt6 := hk6.blk Hbt.out (fun h => h)
  have hbn6 := hk6.blk Hbn.out (fun h => h)
  have hbf6 := hk6.blk Hbf.out (fun h => h)
  have hbb6 : base ≤ w6.heap.size := Nat.le_trans hb2 hk6.size
  have Hbel6 := Lib.hid (Hbel2.out.trans (hk6.below (fun j hj => hj.elim) hb2))
  have Hd := Lib.hid (show ∀ W, Keep (fun j => j = mb) w6 W → W.cell? ⟨bd, 0, none⟩ = some (pg g) from fun W h => (h.blk hbd6 (hx6.map.ne hbd6)).cell 0)
  have Hn := Lib.hid (show ∀ W, Keep (fun j => j = mb) w6 W → W.cell? ⟨bn, 0, none⟩ = some (.string name) from fun W h => (h.blk hbn6 (hx6.map.ne hbn6)).cell 0)
  have Ht := Lib.hid (show ∀ W, Keep (fun j => j = mb) w6 W → W.cell? ⟨bt, 0, none⟩ = some (.string tn) from fun W h => (h.blk hbt6 (hx6.map.ne hbt6)).cell 0)
  have Hf := Lib.hid (show ∀ W, Keep (fun j => j = mb) w6 W → W.cell? ⟨w.heap.size, 0, none⟩ = some (pg id) from fun W h => (h.blk hbf6 (hx6.map.ne hbf6)).cell 0)
  have Hm := Lib.hid (show ∀ W, Keep (fun j => j = mb) w6 W → W.cell? ⟨g, 1, none⟩ = some (.map (some mb)) from fun W h => (h.blk hx6.disk (hx6.map.ne hx6.disk)).cell 1)
  have Hm0 := Lib.hid hx6.map
  have Hx6 := Lib.hid hx6
  have Hbd6 := Lib.hid hbd6
  have Hbt6 := Lib.hid hbt6
  have Hbn6 := Lib.hid hbn6
  have Hbf6 := Lib.hid hbf6
  have Hb1 := Lib.hid hb1
  have Hb2 := Lib.hid hb2'
  clear Hbel2 Hx2 Hbf Hbd Hbt Hbn Hlk Hst Hst2 hb1 hb2' hk6 hx6 hbd6 hbt6 hbn6 hbf6 hqb
  go_upto_region 4 with (fail)
  go_cut [] from 20 to 24 (fun wx => ∃ W : World, W = wx ∧ FMapAt W mb S.n (putF S.cur name.data.toList none) ∧ Keep (fun j => j = mb) w6 W)
  case first Jx Kx hJx hMx =>
    refine wp_region_stages (by kernel_rfl) ?_
    refine anyOrder_start [5] (Keep (fun j => j = mb)) (mapW w6 mb S.n S.n S.cur (putF S.cur name.data.toList none)) (FactsOn [.is (.pointer (some ⟨g, 0, none⟩)), .is (.pointer (some ⟨g, 0, none⟩)), .is (.pointer (some ⟨g, 1, none⟩)), .is (.map (some mb)), .is (.string name), .any]) (fun i => 99) keep_trans keep_grow (mapW.grow) (factsOn_mono _) (by kernel_rfl) (by kernel_rfl) ⟨Hm0.out, Keep.refl _ _⟩ ?_ ?_
    · refine ⟨?_, ?_, ?_, ?_, ?_, ?_, trivial⟩
      · refine stageOf_free rfl (fun _ _ _ _ _ _ => wanted_none rfl) ?_
        intro us vals w3 a' ha hle hW hd hv K hK
        have q3 : a'.tmps[3]? = some (.pointer (some ⟨bd, 0, none⟩)) := slot_old ha (by kernel_rfl) (by kernel_rfl)
        have hc := Hd.out w3 hW.keep
        refine step_value (v := .pointer (some ⟨g, 0, none⟩)) (w2 := w3) ?_ (hK _ _ (Grow.refl _) rfl)
        go_simp
      · refine stageOf_free rfl (fun _ _ _ _ _ _ => wanted_none rfl) ?_
        intro us vals w3 a' ha hle hW hd hv K hK
        obtain ⟨d0, _⟩ := hd
        have q20 : a'.tmps[20]? = some (us 0) := slot_get ha 0 (by kernel_rfl) (by kernel_rfl)
        rw [show us 0 = .pointer (some ⟨g, 0, none⟩) from d0] at q20
        refine step_value (v := .pointer (some ⟨g, 0, none⟩)) (w2 := w3) ?_ (hK _ _ (Grow.refl _) rfl)
        go_simp
      · refine stageOf_free rfl (fun _ _ _ _ _ _ => wanted_none rfl) ?_
        intro us vals w3 a' ha hle hW hd hv K hK
        obtain ⟨d1, _⟩ := hd
        have q21 : a'.tmps[21]? = some (us 1) := slot_get ha 1 (by kernel_rfl) (by kernel_rfl)
        rw [show us 1 = .pointer (some ⟨g, 0, none⟩) from d1] at q21
        refine step_value (v := .pointer (some ⟨g, 1, none⟩)) (w2 := w3) ?_ (hK _ _ (Grow.refl _) rfl)
        go_simp
      · refine stageOf_free rfl (fun _ _ _ _ _ _ => wanted_none rfl) ?_
        intro us vals w3 a' ha hle hW hd hv K hK
        obtain ⟨d2, _⟩ := hd
        have q22 : a'.tmps[22]? = some (us 2) := slot_get ha 2 (by kernel_rfl) (by kernel_rfl)
        rw [show us 2 = .pointer (some ⟨g, 1, none⟩) from d2] at q22
        have hc := Hm.out w3 hW.keep
        refine step_value (v := .map (some mb)) (w2 := w3) ?_ (hK _ _ (Grow.refl _) rfl)
        go_simp
      · refine stageOf_free rfl (fun _ _ _ _ _ _ => wanted_none rfl) ?_
        intro us vals w3 a' ha hle hW hd hv K hK
        have q1 : a'.tmps[1]? = some (.pointer (some ⟨bn, 0, none⟩)) := slot_old ha (by kernel_rfl) (by kernel_rfl)
        have hc := Hn.out w3 hW.keep
        refine step_value (v := .string name) (w2 := w3) ?_ (hK _ _ (Grow.refl _) rfl)
        go_simp
      · refine stageOf_mem (t := 0) rfl ?_
        intro us vals w3 a' ha hle hW hd hv
        obtain ⟨d3, d4, _⟩ := hd
        obtain rfl := List.eq_nil_of_length_eq_zero (Nat.le_zero.1 (show vals.length ≤ 0 from Nat.le_of_eq hv))
        refine ⟨wanted_none rfl, fun K hK => ?_⟩
        have q23 : a'.tmps[23]? = some (us 3) := slot_get ha 3 (by kernel_rfl) (by kernel_rfl)
        rw [show us 3 = .map (some mb) from d3] at q23
        have q24 : a'.tmps[24]? = some (us 4) := slot_get ha 4 (by kernel_rfl) (by kernel_rfl)
        rw [show us 4 = .string name from d4] at q24
        obtain ⟨w6, hrun, hm6, hk6⟩ := hW.1.del name (by assumption) 0
        exact wp_delete 46 9 23 24 rfl q23 q24 hrun (hK _ _ hk6 ⟨hm6, hW.2.trans' hk6⟩)
    · intro us vals w7 hle hvl hW ht hf
      obtain ⟨x, rfl⟩ := List.length_eq_one_iff.1 hvl
      exact hMx _ _ (Met.intro (hJx _ _ ⟨us 0, us 1, us 2, us 3, us 4, ⟨_, rfl, hW.1, hW.2⟩, by kernel_rfl⟩))
  case rest =>
  obtain ⟨w7, rfl, hm7, hk7⟩ := hcut
  have Hm7 := Lib.hid hm7
  have Hk7 := Lib.hid hk7
  clear hm7 hk7
  go_upto_region 5 with (fail)
  go_cut [] from 25 to 30 (fun wx => ∃ W : World, W = wx ∧ FMapAt W mb (S.n + 1) (putF (putF S.cur name.data.toList none) tn.data.toList (some id)) ∧ Keep (fun j => j = mb) w6 W)
  case first Jx Kx hJx hMx =>
    refine wp_region_stages (by kernel_rfl) ?_
    refine anyOrder_start [6] (Keep (fun j => j = mb)) (mapW w6 mb S.n (S.n + 1) (putF S.cur name.data.toList none) (putF (putF S.cur name.data.toList none) tn.data.toList (some id))) (FactsOn [.is (.pointer (some ⟨g, 0, none⟩)), .is (.pointer (some ⟨g, 0, none⟩)), .is (.pointer (some ⟨g, 1, none⟩)), .is (.map (some mb)), .is (.string tn), .is (.pointer (some ⟨id, 0, none⟩)), .any]) (fun i => 99) keep_trans keep_grow (mapW.grow) (factsOn_mono _) (by kernel_rfl) (by kernel_rfl) ⟨Hm7.out, Hk7.out⟩ ?_ ?_
    · refine ⟨?_, ?_, ?_, ?_, ?_, ?_, ?_, trivial⟩
      · refine stageOf_free rfl (fun _ _ _ _ _ _ => wanted_none rfl) ?_
        intro us vals w3 a' ha hle hW hd hv K hK
        have q3 : a'.tmps[3]? = some (.pointer (some ⟨bd, 0, none⟩)) := slot_old ha (by kernel_rfl) (by kernel_rfl)
        have hc := Hd.out w3 hW.keep
        refine step_value (v := .pointer (some ⟨g, 0, none⟩)) (w2 := w3) ?_ (hK _ _ (Grow.refl _) rfl)
        go_simp
      · refine stageOf_free rfl (fun _ _ _ _ _ _ => wanted_none rfl) ?_
        intro us vals w3 a' ha hle hW hd hv K hK
        obtain ⟨d0, _⟩ := hd
        have q25 : a'.tmps[25]? = some (us 0) := slot_get ha 0 (by kernel_rfl) (by kernel_rfl)
        rw [show us 0 = .pointer (some ⟨g, 0, none⟩) from d0] at q25
        refine step_value (v := .pointer (some ⟨g, 0, none⟩)) (w2 := w3) ?_ (hK _ _ (Grow.refl _) rfl)
        go_simp
      · refine stageOf_free rfl (fun _ _ _ _ _ _ => wanted_none rfl) ?_
        intro us vals w3 a' ha hle hW hd hv K hK
        obtain ⟨d1, _⟩ := hd
        have q26 : a'.tmps[26]? = some (us 1) := slot_get ha 1 (by kernel_rfl) (by kernel_rfl)
        rw [show us 1 = .pointer (some ⟨g, 0, none⟩) from d1] at q26
        refine step_value (v := .pointer (some ⟨g, 1, none⟩)) (w2 := w3) ?_ (hK _ _ (Grow.refl _) rfl)
        go_simp
      · refine stageOf_free rfl (fun _ _ _ _ _ _ => wanted_none rfl) ?_
        intro us vals w3 a' ha hle hW hd hv K hK
        obtain ⟨d2, _⟩ := hd
        have q27 : a'.tmps[27]? = some (us 2) := slot_get ha 2 (by kernel_rfl) (by kernel_rfl)
        rw [show us 2 = .pointer (some ⟨g, 1, none⟩) from d2] at q27
        have hc := Hm.out w3 hW.keep
        refine step_value (v := .map (some mb)) (w2 := w3) ?_ (hK _ _ (Grow.refl _) rfl)
        go_simp
      · refine stageOf_free rfl (fun _ _ _ _ _ _ => wanted_none rfl) ?_
        intro us vals w3 a' ha hle hW hd hv K hK
        have q2 : a'.tmps[2]? = some (.pointer (some ⟨bt, 0, none⟩)) := slot_old ha (by kernel_rfl) (by kernel_rfl)
        have hc := Ht.out w3 hW.keep
        refine step_value (v := .string tn) (w2 := w3) ?_ (hK _ _ (Grow.refl _) rfl)
        go_simp
      · refine stageOf_free rfl (fun _ _ _ _ _ _ => wanted_none rfl) ?_
        intro us vals w3 a' ha hle hW hd hv K hK
        have q4 : a'.tmps[4]? = some (.pointer (some ⟨w.heap.size, 0, none⟩)) := slot_old ha (by kernel_rfl) (by kernel_rfl)
        have hc := Hf.out w3 hW.keep
        refine step_value (v := .pointer (some ⟨id, 0, none⟩)) (w2 := w3) ?_ (hK _ _ (Grow.refl _) rfl)
        go_simp
      · refine stageOf_mem (t := 0) rfl ?_
        intro us vals w3 a' ha hle hW hd hv
        obtain ⟨d3, d4, d5, _, _, _, _, _, _, _⟩ := hd
        obtain rfl := List.eq_nil_of_length_eq_zero (Nat.le_zero.1 (show vals.length ≤ 0 from Nat.le_of_eq hv))
        refine ⟨wanted_none rfl, fun K hK => ?_⟩
        have q28 : a'.tmps[28]? = some (us 3) := slot_get ha 3 (by kernel_rfl) (by kernel_rfl)
        rw [show us 3 = .map (some mb) from d3] at q28
        have q29 : a'.tmps[29]? = some (us 4) := slot_get ha 4 (by kernel_rfl) (by kernel_rfl)
        rw [show us 4 = .string tn from d4] at q29
        have q30 : a'.tmps[30]? = some (us 5) := slot_get ha 5 (by kernel_rfl) (by kernel_rfl)
        rw [show us 5 = .pointer (some ⟨id, 0, none⟩) from d5] at q30
        obtain ⟨w6, hrun, hm6, hk6⟩ := hW.1.put tn (by assumption) (by assumption) id
        exact wp_update 46 28 29 30 rfl q28 q29 q30 hrun (hK _ _ hk6 ⟨hm6, hW.2.trans' hk6⟩)
    · intro us vals w8 hle hvl hW ht hf
      obtain ⟨x, rfl⟩ := List.length_eq_one_iff.1 hvl
      exact hMx _ _ (Met.intro (hJx _ _ ⟨us 0, us 1, us 2, us 3, us 4, us 5, ⟨_, rfl, hW.1, hW.2⟩, by kernel_rfl⟩))
  case rest =>
  obtain ⟨w8, rfl, hm8, hk8⟩ := hcut
  have hx8 := Hx6.out.turned (S' := S.more) hk8 hm8 rfl rfl rfl rfl rfl rfl rfl
  have hne : ∀ {k ty : Nat} {cs : Array Value}, Blk w6 k ty cs → ¬ (k = mb) := fun hb => Hx6.out.map.ne hb
  have hU : UOk w8 g (.func (.func 31) #[] #[pg bd, pg bt, pg m2, pg m1, pg w.heap.size, pg bn]) (putF (putF S.cur name.data.toList none) tn.data.toList (some id)) S.cur := by
    have h := UOk.rename (w := w8) (g := g) (name := name) (id := id) (was := S.cur tn.data.toList) (M := putF (putF S.cur name.data.toList none) tn.data.toList (some id)) (hk8.blk Hbd6.out (hne Hbd6.out)) (hk8.blk Hbt6.out (hne Hbt6.out)) (by rw [← Hlb.out]; exact hk8.blk Hb2.out (hne Hb2.out)) (by rw [← Hlv.out]; exact hk8.blk Hb1.out (hne Hb1.out)) (hk8.blk Hbf6.out (hne Hbf6.out)) (hk8.blk Hbn6.out (hne Hbn6.out)) hs hts
    rw [putF_rename Hid.out Hq.out] at h
    exact h
  have hb8 : base ≤ w8.heap.size := Nat.le_trans hbb6 hk8.size
  have Hbel8 := Lib.hid (Hbel6.out.trans (hk8.below (fun j hj => by rw [hj]; exact Hx6.out.mge) hbb6))
  have Hge8 := Lib.hid (show ∀ j, (j = g ∨ uv.ownBlock = some j) → base ≤ j from fun j hj => by
    rcases hj with rfl | hj
    · exact hx8.ge
    · exact own_ge hx8.undo hj)
  have Hwaits := Lib.hid (vwaits_any w8 g base room S.more _ mb uv fs t c _ hx8 _ _ _ hU hm hb8)
  have hcd8 := (hk8.blk Hbd6.out (hne Hbd6.out)).cell 0
  clear Hd Hn Ht Hf Hm Hm0 hx8 hU hk8 hm8 hne Hm7 Hk7
  go_wp2_with fail
  refine Hwaits.out.mono ?_
  rintro e w9 ⟨rfl, ⟨uv', hx9⟩, hk9⟩
  have Hx9 := Lib.hid hx9
  have Hbel9 := Lib.hid (Hbel8.out.trans (hk9.below Hge8.out hb8))
  clear hx9 hk9
  go_wp2_with fail
  go_ret
  refine ⟨rfl, ?_, Hbel9.out⟩
  unfold St.rename
  rw [if_neg Hq.out]
  exact ⟨uv', _, Hx9.out⟩
/-- what Rename makes of a disk -/
def RenameTo (base g : Nat) (room : Int) (S : St) (a b : ByteArray) (w : World) (x : Int) (w' : World) : Prop :=
  Below base w w' ∧ ((turnE S ≠ 0 ∧ x = turnE S ∧ VAt w' g base room (turnS S)) ∨ (turnE S = 0 ∧ (rightB a && rightB b) = false ∧ x = 2 ∧ VAt w' g base room (turnS S)) ∨
    (turnE S = 0 ∧ (rightB a && rightB b) = true ∧ S.cur a.data.toList = none ∧ x = 10 ∧ VAt w' g base room (turnS S)) ∨
    (turnE S = 0 ∧ (rightB a && rightB b) = true ∧ x = 0 ∧ ∃ id, S.cur a.data.toList = some id ∧ VAt w' g base room ((turnS S).rename a.data.toList b.data.toList id)))
set_option maxRecDepth 100000 in
set_option maxHeartbeats 2000000 in
theorem vRename_any (w : World) (g base : Nat) (room : Int) (S : St) (h : VAt w g base room S) (hb : base ≤ w.heap.size) (a b : ByteArray) (hs : a.size ≤ 281474976710656) (hts : b.size ≤ 281474976710656) (hm : S.maps.length ≤ 1000000) (hnm : S.n < maxLen) :
    Calls Try.prog 10 #[pg g, .string a, .string b] w fun e w' => ∃ x, e = .returned (.int .i64 x) ∧ RenameTo base g room S a b w x w' := by
  have hsm : a.size ≤ maxLen := by unfold maxLen; omega
  have htm : b.size ≤ maxLen := by unfold maxLen; omega
  obtain ⟨w1, hw1⟩ : ∃ w1, ((w.alloc (.cells #[pg g] 25)).alloc (.cells #[.string a] 9)).alloc (.cells #[.string b] 9) = w1 := ⟨_, rfl⟩
  have hg1 : Grow w w1 := by rw [← hw1]; exact ((Grow.alloc _ _).trans (Grow.alloc _ _)).trans (Grow.alloc _ _)
  have hbd : Blk w1 w.heap.size 25 #[pg g] := by rw [← hw1]; exact ((Blk.new _ _ _).alloc _).alloc _
  have hba : Blk w1 (w.heap.size + 1) 9 #[.string a] := by
    rw [← hw1]
    have h := (Blk.new (w.alloc (.cells #[pg g] 25)) 9 #[.string a]).alloc (.cells #[.string b] 9)
    simpa using h
  have hbb : Blk w1 (w.heap.size + 2) 9 #[.string b] := by
    rw [← hw1]
    have h := Blk.new ((w.alloc (.cells #[pg g] 25)).alloc (.cells #[.string a] 9)) 9 #[.string b]
    simpa using h
  have h1 := h.grow hg1
  have hgl : g < w.heap.size := by
    obtain ⟨-, _, _, _, _, _, _, hx⟩ := h
    exact hx.disk.lt
  have hge : base ≤ g := by
    obtain ⟨-, _, _, _, _, _, _, hx⟩ := h
    exact hx.ge
  have hb1 : base ≤ w1.heap.size := Nat.le_trans hb hg1.size
  have Hright := Lib.hid (fun (W : World) (s : ByteArray) (h : s.size ≤ 281474976710656) => vright_any W s h)
  have H1 := Lib.hid h1
  have Hbd := Lib.hid hbd
  have Hba := Lib.hid hba
  have Hbb := Lib.hid hbb
  have Hbel1 := Lib.hid (Below.mono hg1 hb)
  have Hs := Lib.hid hs
  have Hts := Lib.hid hts
  have Hgl := Lib.hid hgl
  have Hge := Lib.hid hge
  have Hcd := Lib.hid (show ∀ W, Grow w1 W → W.cell? ⟨w.heap.size, 0, none⟩ = some (pg g) from fun W h => (hbd.below h hbd.lt).cell 0)
  have Hca := Lib.hid (show ∀ W, Grow w1 W → W.cell? ⟨w.heap.size + 1, 0, none⟩ = some (.string a) from fun W h => (hba.below h hba.lt).cell 0)
  have Hcb := Lib.hid (show ∀ W, Grow w1 W → W.cell? ⟨w.heap.size + 2, 0, none⟩ = some (.string b) from fun W h => (hbb.below h hbb.lt).cell 0)
  have Hturn := Lib.hid (show ∀ W, Grow w1 W → Calls Try.prog 21 #[pg g] W fun e W' => e = .returned (.int .i64 (turnE S)) ∧ VAt W' g base room (turnS S) ∧ Below base w W' from fun W hgW => by
    obtain ⟨hwf, mb, uv, fs, t, c, rv, hx⟩ := h1.grow hgW
    refine (vturn_any hx hwf.armed).mono ?_
    rintro e W' ⟨rfl, ⟨t', c', hx'⟩, hk⟩
    rw [← turnS_cur S] at hx'
    exact ⟨rfl, ⟨hwf.turn, mb, uv, fs, t', c', rv, hx'⟩, ((Below.mono hg1 hb).trans (Below.mono hgW hb1)).trans (hk.below (fun j hj => by rw [hj]; exact hge) (Nat.le_trans hb1 hgW.size))⟩)
  have Hon := Lib.hid (show ∀ W, Grow w1 W → (rightB a && rightB b) = true → Calls Try.prog 25 #[pg g, .string a, .func (.func 30) #[] #[pg (w.heap.size + 1), pg (w.heap.size + 2), pg w.heap.size]] W fun e W' => ∃ x, e = .returned (.int .i64 x) ∧ RenameTo base g room S a b w x W' from fun W hgW hr => by
    have hbW : base ≤ W.heap.size := Nat.le_trans hb1 hgW.size
    have hbel := (Below.mono hg1 hb).trans (Below.mono hgW hb1)
    refine von_any W g base room S (h1.grow hgW) a hsm 30 _ (fun _ _ => rfl) (RenameTo base g room S a b w) (fun ht W' hW hk => ⟨hbel.trans (hk.below (fun j hj => by rw [hj]; exact hge) hbW), Or.inl ⟨ht, rfl, hW⟩⟩)
      (fun ht hn W' hW hk => ⟨hbel.trans (hk.below (fun j hj => by rw [hj]; exact hge) hbW), Or.inr (Or.inr (Or.inl ⟨ht, hr, hn, rfl, hW⟩))⟩) (fun ht id hid W' mb uv fs t c rv hwf hx hk => ?_)
    have hbW2 : base ≤ W'.heap.size := Nat.le_trans hbW hk.size
    have hid2 : (turnS S).cur a.data.toList = some id := by rw [turnS_cur]; exact hid
    refine (vRename1_any W' g base room (turnS S) mb uv fs t c rv hx hbW2 id w.heap.size (w.heap.size + 2) (w.heap.size + 1) b a (hk.blk (hba.below hgW hba.lt) (fun e => by have e : w.heap.size + 1 = g := e; omega)) (hk.blk (hbb.below hgW hbb.lt) (fun e => by have e : w.heap.size + 2 = g := e; omega)) (hk.blk (hbd.below hgW hbd.lt) (fun e => by have e : w.heap.size = g := e; omega))
      hsm htm hid2 (by rw [turnS_maps]; exact hm) (by rw [turnS_n]; exact hnm)).mono ?_
    rintro e W2 ⟨rfl, ⟨uv', fs', hx2⟩, hk2⟩
    exact ⟨0, rfl, (hbel.trans (hk.below (fun j hj => by rw [hj]; exact hge) hbW)).trans hk2, Or.inr (Or.inr (Or.inr ⟨ht, hr, rfl, id, hid, hwf.rename hid2, mb, _, _, t, c, rv, hx2⟩))⟩)
  have hcd := hbd.cell 0
  have hca := hba.cell 0
  have hcb := hbb.cell 0
  have hcg : w1.cell? ⟨g, 11, none⟩ = some (.bool true) := by
    obtain ⟨-, _, _, _, _, _, _, hx⟩ := h1
    exact hx.disk.cell 11
  clear h hg1 h1 hbd hba hbb hs hts hgl hge
  go_enter Try.func10, Try.ntmps10
  go_upto_region 1 with (fail)
  (try rw [hw1])
  clear hw1
  go_wp2_with fail
  refine (Hright.out w1 a Hs.out).mono ?_
  rintro e w2 ⟨rfl, hg2⟩
  have hcd2 := Hcd.out w2 hg2
  have hca2 := Hca.out w2 hg2
  have hcb2 := Hcb.out w2 hg2
  have Hg2 := Lib.hid hg2
  clear hcd hca hcb hcg hg2
  cases hra : rightB a with
  | false =>
    have hrf : (rightB a && rightB b) = false := by rw [hra]; rfl
    have Hrf := Lib.hid hrf
    clear hra hrf
    go_wp2_with fail
    refine (Hturn.out w2 Hg2.out).mono ?_
    rintro e w3 ⟨rfl, hv3, hbel3⟩
    have Hv3 := Lib.hid hv3
    have Hbel3 := Lib.hid hbel3
    clear hv3 hbel3 Hon Hturn
    by_cases ht : turnE S = 0
    · have Ht := Lib.hid ht
      rw [ht]
      clear ht
      go_wp2_with fail
      go_ret
      exact ⟨_, rfl, Hbel3.out, Or.inr (Or.inl ⟨Ht.out, Hrf.out, rfl, Hv3.out⟩)⟩
    · go_wp2_with fail
      go_ret
      exact ⟨_, rfl, Hbel3.out, Or.inl ⟨ht, rfl, Hv3.out⟩⟩
  | true =>
    have Hra := Lib.hid hra
    clear hra
    go_wp2_with fail
    refine (Hright.out w2 b Hts.out).mono ?_
    rintro e w3 ⟨rfl, hg3⟩
    have Hg3 := Lib.hid (Hg2.out.trans hg3)
    have hcd3 := Hcd.out w3 Hg3.out
    have hca3 := Hca.out w3 Hg3.out
    have hcb3 := Hcb.out w3 Hg3.out
    clear hcd2 hca2 hcb2 hg3
    cases hrb : rightB b with
    | false =>
      have hrf : (rightB a && rightB b) = false := by rw [hrb]; exact Bool.and_false _
      have Hrf := Lib.hid hrf
      clear hrb hrf
      go_wp2_with fail
      refine (Hturn.out w3 Hg3.out).mono ?_
      rintro e w4 ⟨rfl, hv3, hbel3⟩
      have Hv3 := Lib.hid hv3
      have Hbel3 := Lib.hid hbel3
      clear hv3 hbel3 Hon Hturn
      by_cases ht : turnE S = 0
      · have Ht := Lib.hid ht
        rw [ht]
        clear ht
        go_wp2_with fail
        go_ret
        exact ⟨_, rfl, Hbel3.out, Or.inr (Or.inl ⟨Ht.out, Hrf.out, rfl, Hv3.out⟩)⟩
      · go_wp2_with fail
        go_ret
        exact ⟨_, rfl, Hbel3.out, Or.inl ⟨ht, rfl, Hv3.out⟩⟩
    | true =>
      have Hrt := Lib.hid (show (rightB a && rightB b) = true by rw [Hra.out, hrb]; rfl)
      clear hrb
      go_wp2_with fail
      refine (Hon.out w3 Hg3.out Hrt.out).mono ?_
      rintro e w4 ⟨x, rfl, hx⟩
      have Hx := Lib.hid hx
      clear hx Hon Hturn
      go_wp2_with fail
      go_ret
      exact ⟨x, rfl, Hx.out⟩
end Go.Proofs.Ytcfhhekklakacaa
