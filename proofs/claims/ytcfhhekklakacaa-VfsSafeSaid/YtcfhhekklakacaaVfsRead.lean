/-
  The walk of a disk's Read from a file's beginning. (printed by gen/vread.py)
-/
import Derived.Test.YtcfhhekklakacaaVfsAppend
import Derived.Lib.SliceRun
namespace Go.Proofs.Ytcfhhekklakacaa
open Go.RowKit Go.Maps
set_option linter.unusedVariables false
set_option maxRecDepth 100000 in
theorem vClone_any (w : World) (B : Nat) (A : Option Addr) (n c : Nat) (l : List UInt8) (hR : BytesAt w B A n l) (hB : B ≤ w.heap.size) (hn : n ≤ 140737488355328) :
    Calls Try.prog 41 #[.slice A n c] w fun e w' => ∃ r, e = .returned r ∧ w'.ownsRow w.heap.size 5 1 r l.length (l.map b8) ∧ Grow w w' := by
  have bytesTy := vbytesTy
  have hlen := hR.len
  have heq := fun W a n c => Lib.run_eql_slice_nil (P := Try.prog) W 22 5 a n c 0 0 Try.underlying22
  cases A with
  | none =>
    have hn0 : n = 0 := by
      rcases Nat.eq_zero_or_pos n with h | h
      · exact h
      · obtain ⟨b, off, h1, _⟩ := hR.at_ h
        cases h1
    subst hn0
    obtain rfl := List.eq_nil_of_length_eq_zero hlen
    go_enter Try.func41, Try.ntmps41
    go_wp2
    go_ret
    exact ⟨_, rfl, World.ownsRow_nil _ _ _ _, Grow.refl _⟩
  | some p =>
    go_enter Try.func41, Try.ntmps41
    go_wp2_with (at_builtin; refine wpList_append_reads _ rfl (.tmp 5) (.tmp 6) rfl bytesTy (v := .slice (some ⟨w.heap.size, 0, none⟩) 0 0) rfl (World.ownsRow_made w #[] 0 (Nat.le_refl _) (by decide) rfl) rfl ((hR.more hB).below (Grow.alloc _ _)) (b8_one l) (by simp only [maxLen]; omega) (by omega) (by simp) ?_; intro v' w2 hown hgrow hat)
    go_ret
    exact ⟨_, rfl, by rw [hlen]; simpa using hown, ((Below.refl w.heap.size w).alloc (Nat.le_refl _) _).grown hgrow (by simp) (fun k hk => by simp [Value.ownBlock] at hk; omega)⟩
/-- what Read tells: from a file's beginning -/
def ReadTo (S : St) (name : ByteArray) (n : Nat) (w : World) (e : Ending) (w' : World) : Prop :=
  Grow w w' ∧ ((S.down = true ∧ e = .returned (.tuple #[.slice none 0 0, .int .i64 12])) ∨ (S.down = false ∧ S.cur name.data.toList = none ∧ e = .returned (.tuple #[.slice none 0 0, .int .i64 10])) ∨
    (S.down = false ∧ ∃ id v, S.cur name.data.toList = some id ∧ e = .returned (.tuple #[v, .int .i64 0]) ∧ w'.ownsRow w.heap.size 5 1 v ((S.con id).1.take n).length (((S.con id).1.take n).map b8)))
set_option maxRecDepth 100000 in
set_option maxHeartbeats 4000000 in
theorem vRead_any (w : World) (g base : Nat) (room : Int) (S : St) (h : VAt w g base room S) (name : ByteArray) (hs : name.size ≤ maxLen) (n : Nat) (hn : n ≤ 4611686018427387904) :
    Calls Try.prog 13 #[pg g, .string name, .int .i64 0, .int .i64 (n : Int)] w (ReadTo S name n w) := by
  obtain ⟨hwf, mb, uv, fs, t, c, rv, hx⟩ := h
  have Hlook := Lib.hid (vlook_any w g base room S S.cur mb uv fs t c rv hx name hs)
  have hnn : decide ((n : Int) < 0) = false := decide_eq_false (by omega)
  cases hd : S.down with
  | true =>
    have hv : lookV S S.cur name.data.toList = (pf none, 12) := by unfold lookV; rw [if_pos hd]
    rw [hv] at Hlook
    clear hv hx hwf
    have Hd := Lib.hid hd
    clear hd
    go_enter Try.func13, Try.ntmps13
    go_wp2_with fail
    refine Hlook.out.mono ?_
    rintro e w2 ⟨rfl, rfl⟩
    go_wp2_with fail
    refine bodyPost_ret (results_tmp2 rfl _ _ _) rfl ?_
    exact ⟨Grow.refl _, Or.inl ⟨Hd.out, rfl⟩⟩
  | false =>
    cases hM : S.cur name.data.toList with
    | none =>
      have hv : lookV S S.cur name.data.toList = (pf none, 10) := by unfold lookV; rw [hd, hM]; rfl
      rw [hv] at Hlook
      have Hd := Lib.hid hd
      have HM := Lib.hid hM
      clear hv hx hwf hd hM
      go_enter Try.func13, Try.ntmps13
      go_wp2_with fail
      refine Hlook.out.mono ?_
      rintro e w2 ⟨rfl, rfl⟩
      go_wp2_with fail
      refine bodyPost_ret (results_tmp2 rfl _ _ _) rfl ?_
      exact ⟨Grow.refl _, Or.inr (Or.inl ⟨Hd.out, HM.out, rfl⟩)⟩
    | some id =>
      have hv : lookV S S.cur name.data.toList = (pf (some id), 0) := by unfold lookV; rw [hd, hM]; rfl
      rw [hv] at Hlook
      have hid := hwf.refs _ (St.cur_all S) _ _ hM
      have hlen := hwf.lens id hid
      obtain ⟨hge, d0, hf⟩ := hx.file id hid
      have hrow := hx.row id hid
      obtain ⟨A0, c0, e0, hnc, hcm, hR⟩ := own_reads hrow
      obtain ⟨L, hL⟩ : ∃ L, L = (S.con id).1 := ⟨_, rfl⟩
      rw [← hL] at hlen hrow e0 hnc hR
      obtain ⟨n0, hn0⟩ : ∃ n0, n0 = L.length := ⟨_, rfl⟩
      rw [← hn0] at e0 hnc hR hlen
      rw [e0] at hf
      have HR := Lib.hid (show BytesAt w w.heap.size A0 n0 L from hR)
      have hc0 := hf.cell 0
      have Hc := Lib.hid (show ∀ W, Grow w W → W.cell? ⟨id, 0, none⟩ = some (.slice A0 n0 c0) from fun W h => (hf.below h hf.lt).cell 0)
      obtain ⟨m, hm⟩ : ∃ m : Nat, m = min n n0 := ⟨_, rfl⟩
      have hmin : min (n : Int) (n0 : Int) = (m : Int) := by omega
      have hmn : min (0 : Int) (n0 : Int) = 0 := by omega
      have Hmn := Lib.hid hmn
      have hmle : m ≤ n0 := by omega
      have hcut : ∀ W, (Instr.sliceAt 22 (.slice (cutA A0 c0 0 1) n0 c0) none (some (.int .i64 (m : Int))) none).run Try.prog W = .ok (.slice (cutA A0 c0 0 1) m c0) W := fun W => (run_at vbytesTy _ _ _ _ _).trans (run_cut_head vbytesTy _ _ _ m _ _ rfl (by omega) W)
      have hRc : BytesAt w w.heap.size (cutA A0 c0 0 1) m (L.take m) := (HR.out.tail (c := c0) 0 (Nat.zero_le _) hnc).head m (by omega)
      have Hclone := Lib.hid (show ∀ W, Grow w W → Calls Try.prog 41 #[.slice (cutA A0 c0 0 1) m c0] W fun e w' => ∃ r, e = .returned r ∧ w'.ownsRow W.heap.size 5 1 r (L.take m).length ((L.take m).map b8) ∧ Grow W w' from fun W hg => vClone_any W w.heap.size _ m _ (L.take m) (hRc.below hg) hg.size (by omega))
      have Hm := Lib.hid hm
      have Hn0 := Lib.hid hn0
      have HL := Lib.hid hL
      have Hd := Lib.hid hd
      have HM := Lib.hid hM
      clear hv hx hwf hd hM hrow e0 hR hRc hL hn0 hm hmn hf hc0
      go_enter Try.func13, Try.ntmps13
      go_wp2_with fail
      refine Hlook.out.mono ?_
      rintro e w2 ⟨rfl, rfl⟩
      go_upto_region 6 with (fail)
      go_cut [12] from 30 to 43 (fun v12 wx => ∃ W : World, W = wx ∧ v12 = .slice (cutA A0 c0 0 1) n0 c0 ∧ Grow w2 W)
      case first Jx Kx hJx hMx =>
        refine wp_region_stages (by kernel_rfl) ?_
        refine anyOrder_start [] (Keep (fun _ => False)) ((fun _ W => Grow w2 W)) (FactsOn [.is (.pointer (some ⟨id, 0, none⟩)), .is (.pointer (some ⟨id, 0, none⟩)), .is (.pointer (some ⟨id, 0, none⟩)), .is (.pointer (some ⟨id, 0, none⟩)), .is (.slice A0 n0 c0), .is (.int .i64 0), .is (.pointer (some ⟨id, 0, none⟩)), .is (.pointer (some ⟨id, 0, none⟩)), .is (.pointer (some ⟨id, 0, none⟩)), .is (.pointer (some ⟨id, 0, none⟩)), .is (.slice A0 n0 c0), .is (.int .i64 (n0 : Int)), .is (.int .i64 0), .is (.slice (cutA A0 c0 0 1) n0 c0), .is (.slice (cutA A0 c0 0 1) n0 c0)]) (fun i => 99) keep_trans keep_grow (fun _ _ _ hg h => Grow.trans h hg) (factsOn_mono _) (by kernel_rfl) (by kernel_rfl) (Grow.refl _) ?_ ?_
        · refine ⟨?_, ?_, ?_, ?_, ?_, ?_, ?_, ?_, ?_, ?_, ?_, ?_, ?_, ?_, ?_, trivial⟩
          · refine stageOf_free rfl (fun _ _ _ _ _ _ => wanted_none rfl) ?_
            intro us vals w3 a' ha hle hW hd hv K hK
            have q10 : a'.tmps[10]? = some (.pointer (some ⟨id, 0, none⟩)) := slot_old ha (by kernel_rfl) (by kernel_rfl)
            refine step_value (v := .pointer (some ⟨id, 0, none⟩)) (w2 := w3) ?_ (hK _ _ (Grow.refl _) rfl)
            go_simp
          · refine stageOf_free rfl (fun _ _ _ _ _ _ => wanted_none rfl) ?_
            intro us vals w3 a' ha hle hW hd hv K hK
            obtain ⟨d0, _⟩ := hd
            have q30 : a'.tmps[30]? = some (us 0) := slot_get ha 0 (by kernel_rfl) (by kernel_rfl)
            rw [show us 0 = .pointer (some ⟨id, 0, none⟩) from d0] at q30
            refine step_value (v := .pointer (some ⟨id, 0, none⟩)) (w2 := w3) ?_ (hK _ _ (Grow.refl _) rfl)
            go_simp
          · refine stageOf_free rfl (fun _ _ _ _ _ _ => wanted_none rfl) ?_
            intro us vals w3 a' ha hle hW hd hv K hK
            obtain ⟨d1, _⟩ := hd
            have q31 : a'.tmps[31]? = some (us 1) := slot_get ha 1 (by kernel_rfl) (by kernel_rfl)
            rw [show us 1 = .pointer (some ⟨id, 0, none⟩) from d1] at q31
            refine step_value (v := .pointer (some ⟨id, 0, none⟩)) (w2 := w3) ?_ (hK _ _ (Grow.refl _) rfl)
            go_simp
          · refine stageOf_free rfl (fun _ _ _ _ _ _ => wanted_none rfl) ?_
            intro us vals w3 a' ha hle hW hd hv K hK
            obtain ⟨d2, _⟩ := hd
            have q32 : a'.tmps[32]? = some (us 2) := slot_get ha 2 (by kernel_rfl) (by kernel_rfl)
            rw [show us 2 = .pointer (some ⟨id, 0, none⟩) from d2] at q32
            refine step_value (v := .pointer (some ⟨id, 0, none⟩)) (w2 := w3) ?_ (hK _ _ (Grow.refl _) rfl)
            go_simp
          · refine stageOf_free rfl (fun _ _ _ _ _ _ => wanted_none rfl) ?_
            intro us vals w3 a' ha hle hW hd hv K hK
            obtain ⟨d3, _⟩ := hd
            have q33 : a'.tmps[33]? = some (us 3) := slot_get ha 3 (by kernel_rfl) (by kernel_rfl)
            rw [show us 3 = .pointer (some ⟨id, 0, none⟩) from d3] at q33
            have hc := Hc.out w3 hW
            refine step_value (v := .slice A0 n0 c0) (w2 := w3) ?_ (hK _ _ (Grow.refl _) rfl)
            go_simp
          · refine stageOf_free rfl (fun _ _ _ _ _ _ => wanted_none rfl) ?_
            intro us vals w3 a' ha hle hW hd hv K hK
            have q2 : a'.tmps[2]? = some (.int .i64 0) := slot_old ha (by kernel_rfl) (by kernel_rfl)
            refine step_value (v := .int .i64 0) (w2 := w3) ?_ (hK _ _ (Grow.refl _) rfl)
            go_simp
          · refine stageOf_free rfl (fun _ _ _ _ _ _ => wanted_none rfl) ?_
            intro us vals w3 a' ha hle hW hd hv K hK
            have q10 : a'.tmps[10]? = some (.pointer (some ⟨id, 0, none⟩)) := slot_old ha (by kernel_rfl) (by kernel_rfl)
            refine step_value (v := .pointer (some ⟨id, 0, none⟩)) (w2 := w3) ?_ (hK _ _ (Grow.refl _) rfl)
            go_simp
          · refine stageOf_free rfl (fun _ _ _ _ _ _ => wanted_none rfl) ?_
            intro us vals w3 a' ha hle hW hd hv K hK
            obtain ⟨d6, _⟩ := hd
            have q36 : a'.tmps[36]? = some (us 6) := slot_get ha 6 (by kernel_rfl) (by kernel_rfl)
            rw [show us 6 = .pointer (some ⟨id, 0, none⟩) from d6] at q36
            refine step_value (v := .pointer (some ⟨id, 0, none⟩)) (w2 := w3) ?_ (hK _ _ (Grow.refl _) rfl)
            go_simp
          · refine stageOf_free rfl (fun _ _ _ _ _ _ => wanted_none rfl) ?_
            intro us vals w3 a' ha hle hW hd hv K hK
            obtain ⟨d7, _⟩ := hd
            have q37 : a'.tmps[37]? = some (us 7) := slot_get ha 7 (by kernel_rfl) (by kernel_rfl)
            rw [show us 7 = .pointer (some ⟨id, 0, none⟩) from d7] at q37
            refine step_value (v := .pointer (some ⟨id, 0, none⟩)) (w2 := w3) ?_ (hK _ _ (Grow.refl _) rfl)
            go_simp
          · refine stageOf_free rfl (fun _ _ _ _ _ _ => wanted_none rfl) ?_
            intro us vals w3 a' ha hle hW hd hv K hK
            obtain ⟨d8, _⟩ := hd
            have q38 : a'.tmps[38]? = some (us 8) := slot_get ha 8 (by kernel_rfl) (by kernel_rfl)
            rw [show us 8 = .pointer (some ⟨id, 0, none⟩) from d8] at q38
            refine step_value (v := .pointer (some ⟨id, 0, none⟩)) (w2 := w3) ?_ (hK _ _ (Grow.refl _) rfl)
            go_simp
          · refine stageOf_free rfl (fun _ _ _ _ _ _ => wanted_none rfl) ?_
            intro us vals w3 a' ha hle hW hd hv K hK
            obtain ⟨d9, _⟩ := hd
            have q39 : a'.tmps[39]? = some (us 9) := slot_get ha 9 (by kernel_rfl) (by kernel_rfl)
            rw [show us 9 = .pointer (some ⟨id, 0, none⟩) from d9] at q39
            have hc := Hc.out w3 hW
            refine step_value (v := .slice A0 n0 c0) (w2 := w3) ?_ (hK _ _ (Grow.refl _) rfl)
            go_simp
          · refine stageOf_free rfl (fun _ _ _ _ _ _ => wanted_none rfl) ?_
            intro us vals w3 a' ha hle hW hd hv K hK
            obtain ⟨d10, _⟩ := hd
            have q40 : a'.tmps[40]? = some (us 10) := slot_get ha 10 (by kernel_rfl) (by kernel_rfl)
            rw [show us 10 = .slice A0 n0 c0 from d10] at q40
            refine step_value (v := .int .i64 (n0 : Int)) (w2 := w3) ?_ (hK _ _ (Grow.refl _) rfl)
            go_simp
          · refine stageOf_free rfl (fun _ _ _ _ _ _ => wanted_none rfl) ?_
            intro us vals w3 a' ha hle hW hd hv K hK
            obtain ⟨d5, d11, _⟩ := hd
            have q35 : a'.tmps[35]? = some (us 5) := slot_get ha 5 (by kernel_rfl) (by kernel_rfl)
            rw [show us 5 = .int .i64 0 from d5] at q35
            have q41 : a'.tmps[41]? = some (us 11) := slot_get ha 11 (by kernel_rfl) (by kernel_rfl)
            rw [show us 11 = .int .i64 (n0 : Int) from d11] at q41
            have hmn := Hmn.out
            refine step_value (v := .int .i64 0) (w2 := w3) ?_ (hK _ _ (Grow.refl _) rfl)
            go_simp
          · refine stageOf_free rfl (fun _ _ _ _ _ _ => wanted_none rfl) ?_
            intro us vals w3 a' ha hle hW hd hv K hK
            obtain ⟨d4, d12, _⟩ := hd
            have q34 : a'.tmps[34]? = some (us 4) := slot_get ha 4 (by kernel_rfl) (by kernel_rfl)
            rw [show us 4 = .slice A0 n0 c0 from d4] at q34
            have q42 : a'.tmps[42]? = some (us 12) := slot_get ha 12 (by kernel_rfl) (by kernel_rfl)
            rw [show us 12 = .int .i64 0 from d12] at q42
            exact step_cut_tail vbytesTy rfl q34 q42 0 rfl (Nat.zero_le _) (hK _ _ (Grow.refl _) rfl)
          · refine stageOf_free rfl (fun _ _ _ _ _ _ => wanted_none rfl) ?_
            intro us vals w3 a' ha hle hW hd hv K hK
            obtain ⟨d13, _, _, _, _, _, _, _, _, _, _, _, _, _, _, _⟩ := hd
            have q43 : a'.tmps[43]? = some (us 13) := slot_get ha 13 (by kernel_rfl) (by kernel_rfl)
            rw [show us 13 = .slice (cutA A0 c0 0 1) n0 c0 from d13] at q43
            refine step_value (v := .slice (cutA A0 c0 0 1) n0 c0) (w2 := w3) ?_ (hK _ _ (Grow.refl _) rfl)
            go_simp
        · intro us vals w5 hle hvl hW ht hf
          exact hMx _ _ (Met.intro (hJx _ _ ⟨us 14, us 0, us 1, us 2, us 3, us 4, us 5, us 6, us 7, us 8, us 9, us 10, us 11, us 12, us 13, ⟨_, rfl, hf 14 (by decide) rfl, hW⟩, by kernel_rfl⟩))
      case rest =>
      obtain ⟨w5, rfl, rfl, hg5⟩ := hcut
      have Hcl5 := Lib.hid (Hclone.out w5 hg5)
      have Hg5 := Lib.hid hg5
      clear hg5 Hclone
      have hmin' := hmin
      go_wp2_with fail
      refine Hcl5.out.mono ?_
      rintro e w6 ⟨r, rfl, hown, hg6⟩
      have Hown := Lib.hid hown
      have Hg6 := Lib.hid hg6
      clear hown hg6
      go_wp2_with fail
      refine bodyPost_ret (results_tmp2 rfl _ _ _) rfl ?_
      have ho := own_base Hown.out (show w2.heap.size ≤ w5.heap.size from Hg5.out.size)
      refine ⟨Hg5.out.trans Hg6.out, Or.inr (Or.inr ⟨Hd.out, id, r, HM.out, rfl, ?_⟩)⟩
      have e : (S.con id).1.take n = L.take m := by
        rw [← HL.out, Hm.out, Hn0.out]
        rcases Nat.le_total n L.length with h | h
        · rw [Nat.min_eq_left h]
        · rw [Nat.min_eq_right h, List.take_of_length_le h, List.take_length]
      rw [e]
      exact ho
end Go.Proofs.Ytcfhhekklakacaa
