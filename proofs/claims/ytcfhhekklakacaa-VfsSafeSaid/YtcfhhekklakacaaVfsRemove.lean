/-
  The walks of a disk's Remove, and of what undoes it. (printed by gen/vremove.py)
-/
import Derived.Test.YtcfhhekklakacaaVfsSync
namespace Go.Proofs.Ytcfhhekklakacaa
open Go.RowKit Go.Maps
set_option linter.unusedVariables false
theorem mapW.keep {w0 w : World} {mb n n2 : Nat} {M M2 : FM} : ∀ {vals : List Value}, mapW w0 mb n n2 M M2 vals w → Keep (fun j => j = mb) w0 w
  | [], h => h.2
  | _ :: _, h => h.2
/-- a waiting change may lead on from other names, too -/
theorem Wf.wait {S : St} (h : Wf S) {M : FM} (h1 : ∀ l id, M l = some id → id ∈ S.ids) (h2 : ∀ l l' id, M l = some id → M l' = some id → l = l') : Wf (S.wait M) := by
  have hall : (S.wait M).all = S.all ++ [M] := by simp [St.wait, St.all]
  refine ⟨h.nodup, h.safe, fun M' hM => ?_, fun M' hM => ?_, h.armed, h.full, h.lens⟩
  · rw [hall] at hM
    rcases List.mem_append.1 hM with hM | hM
    · exact h.refs M' hM
    · obtain rfl : M' = M := by simpa using hM
      exact h1
  · rw [hall] at hM
    rcases List.mem_append.1 hM with hM | hM
    · exact h.inj M' hM
    · obtain rfl : M' = M := by simpa using hM
      exact h2
theorem putF_put {M : FM} {l : List UInt8} {v : Option Nat} (u : Option Nat) (h : M l = v) : putF (putF M l u) l v = M := by
  funext x
  by_cases e : x = l
  · subst e
    rw [putF_self, h]
  · rw [putF_ne _ _ e, putF_ne _ _ e]
/-- a file is taken away -/
def St.remove (S : St) (l : List UInt8) : St := S.wait (putF S.cur l none)
theorem Wf.remove {S : St} (h : Wf S) (l : List UInt8) : Wf (S.remove l) := h.wait
  (fun x id hx => by
    by_cases e : x = l
    · rw [e, putF_self] at hx; cases hx
    · rw [putF_ne _ _ e] at hx; exact h.refs _ (St.cur_all S) _ _ hx)
  (fun x y id hx hy => by
    by_cases e : x = l
    · rw [e, putF_self] at hx; cases hx
    · by_cases e2 : y = l
      · rw [e2, putF_self] at hy; cases hy
      · rw [putF_ne _ _ e] at hx; rw [putF_ne _ _ e2] at hy; exact h.inj _ (St.cur_all S) _ _ _ hx hy)
set_option maxRecDepth 100000 in
set_option maxHeartbeats 2000000 in
theorem vRemove2_any (w : World) (g mb bf bd bn n id : Nat) (name : ByteArray) (M : FM) {cs : Array Value} (hf : Blk w bf 53 #[pg id]) (hd : Blk w bd 25 #[pg g]) (hn : Blk w bn 9 #[.string name]) (hs : name.size ≤ maxLen) (hg : Blk w g 51 cs) (hc : cs[1]? = some (.map (some mb))) (hm : FMapAt w mb n M) (hnm : n < maxLen) :
    Calls Try.prog 43 #[pg bf, pg bd, pg bn] w fun e w' => e = .returned (.tuple #[]) ∧ FMapAt w' mb (n + 1) (putF M name.data.toList (some id)) ∧ Keep (fun j => j = mb) w w' := by
  obtain ⟨wr, rfl⟩ : ∃ wr : World, wr = w := ⟨_, rfl⟩
  have Hf := Lib.hid (show ∀ W, Keep (fun j => j = mb) wr W → W.cell? ⟨bf, 0, none⟩ = some (pg id) from fun W h => (h.blk hf (hm.ne hf)).cell 0)
  have Hd := Lib.hid (show ∀ W, Keep (fun j => j = mb) wr W → W.cell? ⟨bd, 0, none⟩ = some (pg g) from fun W h => (h.blk hd (hm.ne hd)).cell 0)
  have Hn := Lib.hid (show ∀ W, Keep (fun j => j = mb) wr W → W.cell? ⟨bn, 0, none⟩ = some (.string name) from fun W h => (h.blk hn (hm.ne hn)).cell 0)
  have Hm := Lib.hid (show ∀ W, Keep (fun j => j = mb) wr W → W.cell? ⟨g, 1, none⟩ = some (.map (some mb)) from fun W h => ((h.blk hg (hm.ne hg)).cell 1).trans hc)
  have Hm0 := Lib.hid (show FMapAt wr mb n M from hm)
  clear hf hd hn hm hg hc
  go_enter Try.func43, Try.ntmps43
  go_upto_region 0 with (fail)
  refine wp_region_stages (by kernel_rfl) ?_
  refine anyOrder_start [6] (Keep (fun j => j = mb)) (mapW wr mb n (n + 1) M (putF M name.data.toList (some id))) (FactsOn [.is (.pointer (some ⟨g, 0, none⟩)), .is (.pointer (some ⟨g, 0, none⟩)), .is (.pointer (some ⟨g, 1, none⟩)), .is (.map (some mb)), .is (.string name), .is (.pointer (some ⟨id, 0, none⟩)), .any]) (fun i => 99) keep_trans keep_grow (mapW.grow) (factsOn_mono _) (by kernel_rfl) (by kernel_rfl) ⟨Hm0.out, Keep.refl _ _⟩ ?_ ?_
  · refine ⟨?_, ?_, ?_, ?_, ?_, ?_, ?_, trivial⟩
    · refine stageOf_free rfl (fun _ _ _ _ _ _ => wanted_none rfl) ?_
      intro us vals w3 a' ha hle hW hd hv K hK
      have q1 : a'.tmps[1]? = some (.pointer (some ⟨bd, 0, none⟩)) := slot_old ha (by kernel_rfl) (by kernel_rfl)
      have hc := Hd.out w3 hW.keep
      refine step_value (v := .pointer (some ⟨g, 0, none⟩)) (w2 := w3) ?_ (hK _ _ (Grow.refl _) rfl)
      go_simp
    · refine stageOf_free rfl (fun _ _ _ _ _ _ => wanted_none rfl) ?_
      intro us vals w3 a' ha hle hW hd hv K hK
      obtain ⟨d0, _⟩ := hd
      have q3 : a'.tmps[3]? = some (us 0) := slot_get ha 0 (by kernel_rfl) (by kernel_rfl)
      rw [show us 0 = .pointer (some ⟨g, 0, none⟩) from d0] at q3
      refine step_value (v := .pointer (some ⟨g, 0, none⟩)) (w2 := w3) ?_ (hK _ _ (Grow.refl _) rfl)
      go_simp
    · refine stageOf_free rfl (fun _ _ _ _ _ _ => wanted_none rfl) ?_
      intro us vals w3 a' ha hle hW hd hv K hK
      obtain ⟨d1, _⟩ := hd
      have q4 : a'.tmps[4]? = some (us 1) := slot_get ha 1 (by kernel_rfl) (by kernel_rfl)
      rw [show us 1 = .pointer (some ⟨g, 0, none⟩) from d1] at q4
      refine step_value (v := .pointer (some ⟨g, 1, none⟩)) (w2 := w3) ?_ (hK _ _ (Grow.refl _) rfl)
      go_simp
    · refine stageOf_free rfl (fun _ _ _ _ _ _ => wanted_none rfl) ?_
      intro us vals w3 a' ha hle hW hd hv K hK
      obtain ⟨d2, _⟩ := hd
      have q5 : a'.tmps[5]? = some (us 2) := slot_get ha 2 (by kernel_rfl) (by kernel_rfl)
      rw [show us 2 = .pointer (some ⟨g, 1, none⟩) from d2] at q5
      have hc := Hm.out w3 hW.keep
      refine step_value (v := .map (some mb)) (w2 := w3) ?_ (hK _ _ (Grow.refl _) rfl)
      go_simp
    · refine stageOf_free rfl (fun _ _ _ _ _ _ => wanted_none rfl) ?_
      intro us vals w3 a' ha hle hW hd hv K hK
      have q2 : a'.tmps[2]? = some (.pointer (some ⟨bn, 0, none⟩)) := slot_old ha (by kernel_rfl) (by kernel_rfl)
      have hc := Hn.out w3 hW.keep
      refine step_value (v := .string name) (w2 := w3) ?_ (hK _ _ (Grow.refl _) rfl)
      go_simp
    · refine stageOf_free rfl (fun _ _ _ _ _ _ => wanted_none rfl) ?_
      intro us vals w3 a' ha hle hW hd hv K hK
      have q0 : a'.tmps[0]? = some (.pointer (some ⟨bf, 0, none⟩)) := slot_old ha (by kernel_rfl) (by kernel_rfl)
      have hc := Hf.out w3 hW.keep
      refine step_value (v := .pointer (some ⟨id, 0, none⟩)) (w2 := w3) ?_ (hK _ _ (Grow.refl _) rfl)
      go_simp
    · refine stageOf_mem (t := 0) rfl ?_
      intro us vals w3 a' ha hle hW hd hv
      obtain ⟨d3, d4, d5, _, _, _, _, _, _, _⟩ := hd
      obtain rfl := List.eq_nil_of_length_eq_zero (Nat.le_zero.1 (show vals.length ≤ 0 from Nat.le_of_eq hv))
      refine ⟨wanted_none rfl, fun K hK => ?_⟩
      have q6 : a'.tmps[6]? = some (us 3) := slot_get ha 3 (by kernel_rfl) (by kernel_rfl)
      rw [show us 3 = .map (some mb) from d3] at q6
      have q7 : a'.tmps[7]? = some (us 4) := slot_get ha 4 (by kernel_rfl) (by kernel_rfl)
      rw [show us 4 = .string name from d4] at q7
      have q8 : a'.tmps[8]? = some (us 5) := slot_get ha 5 (by kernel_rfl) (by kernel_rfl)
      rw [show us 5 = .pointer (some ⟨id, 0, none⟩) from d5] at q8
      obtain ⟨w6, hrun, hm6, hk6⟩ := hW.1.put name (by assumption) (by assumption) id
      exact wp_update 46 6 7 8 rfl q6 q7 q8 hrun (hK _ _ hk6 ⟨hm6, hW.2.trans' hk6⟩)
  · intro us vals w5 hle hvl hW ht hf
    obtain ⟨v, rfl⟩ := List.length_eq_one_iff.1 hvl
    refine Go.Great.bodyPost_end0 rfl rfl ?_
    exact ⟨rfl, hW.1, hW.2⟩
set_option maxRecDepth 100000 in
set_option maxHeartbeats 4000000 in
theorem vRemove1_any (w : World) (g base : Nat) (room : Int) (S : St) (mb : Nat) (uv : Value) (fs : List Value) (t c : Int) (rv : Nat → Value) (h : VX w g base room S S.cur mb uv fs t c rv) (hb : base ≤ w.heap.size) (id bd bn : Nat) (name : ByteArray) (hbd : Blk w bd 25 #[pg g]) (hbn : Blk w bn 9 #[.string name])
    (hs : name.size ≤ maxLen) (hid : S.cur name.data.toList = some id) (hm : S.maps.length ≤ 1000000) :
    Calls Try.prog 42 #[pg id, pg bd, pg bn] w fun e w' => e = .returned (.int .i64 0) ∧ (∃ uv' fs', VX w' g base room (S.remove name.data.toList) (S.remove name.data.toList).cur mb uv' fs' t c rv) ∧ Below base w w' := by
  obtain ⟨w2, hw2⟩ : ∃ w2, w.alloc (.cells #[pg id] 53) = w2 := ⟨_, rfl⟩
  have hg2 : Grow w w2 := by rw [← hw2]; exact Grow.alloc _ _
  have hbf : Blk w2 w.heap.size 53 #[pg id] := by rw [← hw2]; exact Blk.new _ _ _
  have hx2 := h.grow hg2
  have hbd := hbd.below hg2 hbd.lt
  have hbn := hbn.below hg2 hbn.lt
  have hb2 : base ≤ w2.heap.size := Nat.le_trans hb hg2.size
  have Hd := Lib.hid (show ∀ W, Keep (fun j => j = mb) w2 W → W.cell? ⟨bd, 0, none⟩ = some (pg g) from fun W h => (h.blk hbd (hx2.map.ne hbd)).cell 0)
  have Hn := Lib.hid (show ∀ W, Keep (fun j => j = mb) w2 W → W.cell? ⟨bn, 0, none⟩ = some (.string name) from fun W h => (h.blk hbn (hx2.map.ne hbn)).cell 0)
  have Hm := Lib.hid (show ∀ W, Keep (fun j => j = mb) w2 W → W.cell? ⟨g, 1, none⟩ = some (.map (some mb)) from fun W h => (h.blk hx2.disk (hx2.map.ne hx2.disk)).cell 1)
  have Hm0 := Lib.hid hx2.map
  have Hbel2 := Lib.hid (Below.mono hg2 hb)
  have Hx2 := Lib.hid hx2
  have Hbf := Lib.hid hbf
  have Hbd := Lib.hid hbd
  have Hbn := Lib.hid hbn
  have Hid := Lib.hid hid
  clear h hg2 hbf hx2 hbd hbn hid
  go_enter Try.func42, Try.ntmps42
  go_upto_region 1 with (fail)
  (try rw [hw2])
  clear hw2
  go_cut [] from 5 to 9 (fun wx => ∃ W : World, W = wx ∧ FMapAt W mb S.n (putF S.cur name.data.toList none) ∧ Keep (fun j => j = mb) w2 W)
  case first Jx Kx hJx hMx =>
    refine wp_region_stages (by kernel_rfl) ?_
    refine anyOrder_start [5] (Keep (fun j => j = mb)) (mapW w2 mb S.n S.n S.cur (putF S.cur name.data.toList none)) (FactsOn [.is (.pointer (some ⟨g, 0, none⟩)), .is (.pointer (some ⟨g, 0, none⟩)), .is (.pointer (some ⟨g, 1, none⟩)), .is (.map (some mb)), .is (.string name), .any]) (fun i => 99) keep_trans keep_grow (mapW.grow) (factsOn_mono _) (by kernel_rfl) (by kernel_rfl) ⟨Hm0.out, Keep.refl _ _⟩ ?_ ?_
    · refine ⟨?_, ?_, ?_, ?_, ?_, ?_, trivial⟩
      · refine stageOf_free rfl (fun _ _ _ _ _ _ => wanted_none rfl) ?_
        intro us vals w3 a' ha hle hW hd hv K hK
        have q1 : a'.tmps[1]? = some (.pointer (some ⟨bd, 0, none⟩)) := slot_old ha (by kernel_rfl) (by kernel_rfl)
        have hc := Hd.out w3 hW.keep
        refine step_value (v := .pointer (some ⟨g, 0, none⟩)) (w2 := w3) ?_ (hK _ _ (Grow.refl _) rfl)
        go_simp
      · refine stageOf_free rfl (fun _ _ _ _ _ _ => wanted_none rfl) ?_
        intro us vals w3 a' ha hle hW hd hv K hK
        obtain ⟨d0, _⟩ := hd
        have q5 : a'.tmps[5]? = some (us 0) := slot_get ha 0 (by kernel_rfl) (by kernel_rfl)
        rw [show us 0 = .pointer (some ⟨g, 0, none⟩) from d0] at q5
        refine step_value (v := .pointer (some ⟨g, 0, none⟩)) (w2 := w3) ?_ (hK _ _ (Grow.refl _) rfl)
        go_simp
      · refine stageOf_free rfl (fun _ _ _ _ _ _ => wanted_none rfl) ?_
        intro us vals w3 a' ha hle hW hd hv K hK
        obtain ⟨d1, _⟩ := hd
        have q6 : a'.tmps[6]? = some (us 1) := slot_get ha 1 (by kernel_rfl) (by kernel_rfl)
        rw [show us 1 = .pointer (some ⟨g, 0, none⟩) from d1] at q6
        refine step_value (v := .pointer (some ⟨g, 1, none⟩)) (w2 := w3) ?_ (hK _ _ (Grow.refl _) rfl)
        go_simp
      · refine stageOf_free rfl (fun _ _ _ _ _ _ => wanted_none rfl) ?_
        intro us vals w3 a' ha hle hW hd hv K hK
        obtain ⟨d2, _⟩ := hd
        have q7 : a'.tmps[7]? = some (us 2) := slot_get ha 2 (by kernel_rfl) (by kernel_rfl)
        rw [show us 2 = .pointer (some ⟨g, 1, none⟩) from d2] at q7
        have hc := Hm.out w3 hW.keep
        refine step_value (v := .map (some mb)) (w2 := w3) ?_ (hK _ _ (Grow.refl _) rfl)
        go_simp
      · refine stageOf_free rfl (fun _ _ _ _ _ _ => wanted_none rfl) ?_
        intro us vals w3 a' ha hle hW hd hv K hK
        have q2 : a'.tmps[2]? = some (.pointer (some ⟨bn, 0, none⟩)) := slot_old ha (by kernel_rfl) (by kernel_rfl)
        have hc := Hn.out w3 hW.keep
        refine step_value (v := .string name) (w2 := w3) ?_ (hK _ _ (Grow.refl _) rfl)
        go_simp
      · refine stageOf_mem (t := 0) rfl ?_
        intro us vals w3 a' ha hle hW hd hv
        obtain ⟨d3, d4, _⟩ := hd
        obtain rfl := List.eq_nil_of_length_eq_zero (Nat.le_zero.1 (show vals.length ≤ 0 from Nat.le_of_eq hv))
        refine ⟨wanted_none rfl, fun K hK => ?_⟩
        have q8 : a'.tmps[8]? = some (us 3) := slot_get ha 3 (by kernel_rfl) (by kernel_rfl)
        rw [show us 3 = .map (some mb) from d3] at q8
        have q9 : a'.tmps[9]? = some (us 4) := slot_get ha 4 (by kernel_rfl) (by kernel_rfl)
        rw [show us 4 = .string name from d4] at q9
        obtain ⟨w6, hrun, hm6, hk6⟩ := hW.1.del name (by assumption) 0
        exact wp_delete 46 9 8 9 rfl q8 q9 hrun (hK _ _ hk6 ⟨hm6, hW.2.trans' hk6⟩)
    · intro us vals w6 hle hvl hW ht hf
      obtain ⟨x, rfl⟩ := List.length_eq_one_iff.1 hvl
      exact hMx _ _ (Met.intro (hJx _ _ ⟨us 0, us 1, us 2, us 3, us 4, ⟨_, rfl, hW.1, hW.2⟩, by kernel_rfl⟩))
  case rest =>
  obtain ⟨w6, rfl, hm3, hk6⟩ := hcut
  have hx6 := Hx2.out.turned (S' := S) hk6 hm3 rfl rfl rfl rfl rfl rfl rfl
  have hne : ∀ {k ty : Nat} {cs : Array Value}, Blk w2 k ty cs → ¬ (k = mb) := fun hb => Hx2.out.map.ne hb
  have hU : UOk w6 g (.func (.func 43) #[] #[pg w.heap.size, pg bd, pg bn]) (putF S.cur name.data.toList none) S.cur := by
    have h := UOk.remove (w := w6) (g := g) (name := name) (id := id) (M := putF S.cur name.data.toList none) (hk6.blk Hbf.out (hne Hbf.out)) (hk6.blk Hbd.out (hne Hbd.out)) (hk6.blk Hbn.out (hne Hbn.out)) hs
    rw [putF_put _ Hid.out] at h
    exact h
  have hb6 : base ≤ w6.heap.size := Nat.le_trans hb2 hk6.size
  have Hbel6 := Lib.hid (Hbel2.out.trans (hk6.below (fun j hj => by rw [hj]; exact Hx2.out.mge) hb2))
  have Hge6 := Lib.hid (show ∀ j, (j = g ∨ uv.ownBlock = some j) → base ≤ j from fun j hj => by
    rcases hj with rfl | hj
    · exact hx6.ge
    · exact own_ge hx6.undo hj)
  have Hwaits := Lib.hid (vwaits_any w6 g base room _ _ mb uv fs t c _ hx6 _ _ _ hU hm hb6)
  have hcd6 := (hk6.blk Hbd.out (hne Hbd.out)).cell 0
  clear Hd Hn Hm Hm0 hx6 hU hk6 hm3 hne
  go_wp2_with fail
  refine Hwaits.out.mono ?_
  rintro e w7 ⟨rfl, ⟨uv', hx7⟩, hk7⟩
  have Hx7 := Lib.hid hx7
  have Hbel7 := Lib.hid (Hbel6.out.trans (hk7.below Hge6.out hb6))
  clear hx7 hk7
  go_wp2_with fail
  go_ret
  exact ⟨rfl, ⟨uv', _, Hx7.out⟩, Hbel7.out⟩
/-- what Remove makes of a disk -/
def RemoveTo (base g : Nat) (room : Int) (S : St) (name : ByteArray) (w : World) (x : Int) (w' : World) : Prop :=
  Below base w w' ∧ ((turnE S ≠ 0 ∧ x = turnE S ∧ VAt w' g base room (turnS S)) ∨ (turnE S = 0 ∧ S.cur name.data.toList = none ∧ x = 10 ∧ VAt w' g base room (turnS S)) ∨
    (turnE S = 0 ∧ x = 0 ∧ ∃ id, S.cur name.data.toList = some id ∧ VAt w' g base room ((turnS S).remove name.data.toList)))
set_option maxRecDepth 100000 in
set_option maxHeartbeats 1000000 in
theorem vRemove_any (w : World) (g base : Nat) (room : Int) (S : St) (h : VAt w g base room S) (hb : base ≤ w.heap.size) (name : ByteArray) (hs : name.size ≤ maxLen) (hm : S.maps.length ≤ 1000000) :
    Calls Try.prog 19 #[pg g, .string name] w fun e w' => ∃ x, e = .returned (.int .i64 x) ∧ RemoveTo base g room S name w x w' := by
  obtain ⟨w1, hw1⟩ : ∃ w1, (w.alloc (.cells #[pg g] 25)).alloc (.cells #[.string name] 9) = w1 := ⟨_, rfl⟩
  have hg1 : Grow w w1 := by rw [← hw1]; exact (Grow.alloc _ _).trans (Grow.alloc _ _)
  have hbd : Blk w1 w.heap.size 25 #[pg g] := by rw [← hw1]; exact (Blk.new _ _ _).alloc _
  have hbn : Blk w1 (w.heap.size + 1) 9 #[.string name] := by
    rw [← hw1]
    have h := Blk.new (w.alloc (.cells #[pg g] 25)) 9 #[.string name]
    simpa using h
  have h1 := h.grow hg1
  have hgl : g < w.heap.size := by
    obtain ⟨-, _, _, _, _, _, _, hx⟩ := h
    exact hx.disk.lt
  have hge : base ≤ g := by
    obtain ⟨-, _, _, _, _, _, _, hx⟩ := h
    exact hx.ge
  have hbg : ¬ (w.heap.size = g) := by omega
  have hbg2 : ¬ (w.heap.size + 1 = g) := by omega
  have hb1 : base ≤ w1.heap.size := Nat.le_trans hb hg1.size
  have Hon := Lib.hid (von_any w1 g base room S h1 name hs 42 #[pg w.heap.size, pg (w.heap.size + 1)] (fun _ _ => rfl) (RemoveTo base g room S name w)
    (fun ht W hW hk => ⟨(Below.mono hg1 hb).trans (hk.below (fun j hj => by rw [hj]; exact hge) hb1), Or.inl ⟨ht, rfl, hW⟩⟩)
    (fun ht hn W hW hk => ⟨(Below.mono hg1 hb).trans (hk.below (fun j hj => by rw [hj]; exact hge) hb1), Or.inr (Or.inl ⟨ht, hn, rfl, hW⟩)⟩)
    (fun ht id hid W mb uv fs t c rv hwf hx hk => by
      have hbW : base ≤ W.heap.size := Nat.le_trans hb1 hk.size
      refine (vRemove1_any W g base room (turnS S) mb uv fs t c rv hx hbW id w.heap.size (w.heap.size + 1) name (hk.blk hbd hbg) (hk.blk hbn hbg2) hs (by rw [turnS_cur]; exact hid) (by rw [turnS_maps]; exact hm)).mono ?_
      rintro e W2 ⟨rfl, ⟨uv', fs', hx2⟩, hk2⟩
      exact ⟨0, rfl, ((Below.mono hg1 hb).trans (hk.below (fun j hj => by rw [hj]; exact hge) hb1)).trans hk2, Or.inr (Or.inr ⟨ht, rfl, id, hid, hwf.remove _, mb, _, _, t, c, rv, hx2⟩)⟩))
  have hc := hbd.cell 0
  have hcn := hbn.cell 0
  clear h hg1 hbd hbn h1 hgl hge hbg hbg2 hb1
  go_enter Try.func19, Try.ntmps19
  go_upto_region 1 with (fail)
  (try rw [hw1])
  clear hw1
  go_wp2_with fail
  refine Hon.out.mono ?_
  rintro e w2 ⟨x, rfl, hx⟩
  have Hx := Lib.hid hx
  clear hx Hon
  go_wp2_with fail
  go_ret
  exact ⟨x, rfl, Hx.out⟩
end Go.Proofs.Ytcfhhekklakacaa
