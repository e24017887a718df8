/-
  The walks of a disk's Append. (printed by gen/vappend.py)
-/
import Derived.Test.YtcfhhekklakacaaVfsRename
namespace Go.Proofs.Ytcfhhekklakacaa
open Go.RowKit Go.Maps
set_option linter.unusedVariables false
theorem vbytesTy : AppTy Try.prog 22 5 (.int .u8 0) 1 1 := AppTy.mk' Try.underlying22 (by kernel_rfl) rfl (by decide)
def St.fullTo (S : St) (f : Nat) : St := { S with full := f }
theorem Wf.fullTo {S : St} (h : Wf S) {f : Nat} (hf : f ≤ S.full) : Wf (S.fullTo f) := ⟨h.nodup, h.safe, h.refs, h.inj, h.armed, Nat.le_trans hf h.full, h.lens⟩
/-- a number that is at most .. -/
def FactOn.upTo {le : World → World → Prop} (B : Nat) : FactOn le := ⟨fun u _ => ∃ r : Nat, u = .int .i64 (r : Int) ∧ r ≤ B, fun _ _ _ _ h => h⟩
/-- true only if .. -/
def FactOn.onlyIf {le : World → World → Prop} (p : Prop) : FactOn le := ⟨fun u _ => ∃ b : Bool, u = .bool b ∧ (b = true → p), fun _ _ _ _ h => h⟩
/-- the disk's full turns -/
def fullW (w0 : World) (g : Nat) (cs cs2 : Array Value) : List Value → World → Prop
  | [], w => Grow w0 w ∧ Blk w g 51 cs
  | _ :: _, w => Keep (fun j => j = g) w0 w ∧ Blk w g 51 cs2
theorem fullW.grow {w0 : World} {g : Nat} {cs cs2 : Array Value} : ∀ (vals : List Value) (x y : World), Grow x y → fullW w0 g cs cs2 vals x → fullW w0 g cs cs2 vals y
  | [], _, _, g, h => ⟨h.1.trans g, h.2.below g h.2.lt⟩
  | _ :: _, _, _, g, h => ⟨h.1.trans' (Keep.grow g), h.2.below g h.2.lt⟩
/-- a row grows, and is laid into its file -/
def appFW (w0 : World) (base id n : Nat) (v0 : Value) (s : Int) (d : Bool) (xs : List Value) : List Value → World → Prop
  | [], w => Grow w0 w
  | [v], w => w.ownsRow base 5 1 v n xs ∧ Keep (fun j => v0.ownBlock = some j) w0 w ∧ (∀ b, v.ownBlock = some b → v0.ownBlock = some b ∨ w0.heap.size ≤ b)
  | [_, _], w => ∃ v, Blk w id 58 #[v, .int .i64 s, .bool d] ∧ w.ownsRow base 5 1 v n xs ∧ Keep (fun j => j = id ∨ v0.ownBlock = some j) w0 w ∧ (∀ b, v.ownBlock = some b → v0.ownBlock = some b ∨ w0.heap.size ≤ b)
  | _, _ => False
theorem appFW.grow {w0 : World} {base id n : Nat} {v0 : Value} {s : Int} {d : Bool} {xs : List Value} : ∀ (vals : List Value) (x y : World), Grow x y → appFW w0 base id n v0 s d xs vals x → appFW w0 base id n v0 s d xs vals y
  | [], _, _, g, h => Grow.trans h g
  | [_], _, _, g, ⟨h1, h2, h3⟩ => ⟨own_below h1 g, h2.trans' (Keep.grow g), h3⟩
  | [_, _], _, _, g, ⟨v, h0, h1, h2, h3⟩ => ⟨v, h0.below g h0.lt, own_below h1 g, h2.trans' (Keep.grow g), h3⟩
  | _ :: _ :: _ :: _, _, _, _, h => h
set_option maxRecDepth 100000 in
set_option maxHeartbeats 4000000 in
theorem vAppend1_any (w : World) (g base B : Nat) (room : Int) (S : St) (mb : Nat) (uv : Value) (fs : List Value) (t c : Int) (rv : Nat → Value) (h : VX w g base room S S.cur mb uv fs t c rv) (hwf : Wf S) (hb : base ≤ w.heap.size) (id bd bb : Nat) (hid : id ∈ S.ids) (hbd : Blk w bd 25 #[pg g])
    (A : Option Addr) (n cp : Nat) (l : List UInt8) (hbb : Blk w bb 22 #[.slice A n cp]) (hl : l.length = n) (hR : ∀ W, Keep (fun j => j = g) w W → ReadsAt W B 1 A n (l.map b8)) (hT : S.total + n ≤ 1000000) (hroom : 0 ≤ room ∧ room ≤ 67108864) :
    Calls Try.prog 26 #[pg id, pg bd, pg bb] w fun e w' => ∃ x, e = .returned (.int .i64 x) ∧ Below base w w' ∧
      ((x = 8 ∧ (S.full = 1 ∨ room < ((S.total + n : Nat) : Int)) ∧ ∃ f, f ≤ S.full ∧ VAt w' g base room (S.fullTo f)) ∨
        (x = 0 ∧ S.full ≠ 1 ∧ VAt w' g base room ((S.fullTo (S.full - 1)).setF id ((S.con id).1 ++ l, (S.con id).2)))) := by
  have hbdg : ¬ (bd = g) := fun e => by
    rw [e] at hbd
    have := (show w.heap[g]? = _ from hbd).symm.trans h.disk
    injection this with this
    injection this with _ this _
    exact absurd this (by decide)
  have hbbg : ¬ (bb = g) := fun e => by
    rw [e] at hbb
    have := (show w.heap[g]? = _ from hbb).symm.trans h.disk
    injection this with this
    injection this with _ this _
    exact absurd this (by decide)
  have Hd := Lib.hid (show ∀ W, Keep (fun j => j = g) w W → W.cell? ⟨bd, 0, none⟩ = some (pg g) from fun W h => (h.blk hbd hbdg).cell 0)
  have Hb := Lib.hid (show ∀ W, Keep (fun j => j = g) w W → W.cell? ⟨bb, 0, none⟩ = some (.slice A n cp) from fun W h => (h.blk hbb hbbg).cell 0)
  have Hroom := Lib.hid (show ∀ W, Grow w W → W.cell? ⟨g, 0, none⟩ = some (.int .i64 room) from fun W hg => (h.disk.below hg h.disk.lt).cell 0)
  have Hbytes := Lib.hid (show ∀ W, Grow w W → Calls Try.prog 27 #[pg g] W fun e w' => ∃ r : Nat, e = .returned (.int .i64 (r : Int)) ∧ r ≤ S.total ∧ Grow W w' from fun W hg => vbytes_any W g base room S S.cur mb uv fs t c rv (h.grow hg) (hwf.refs _ (St.cur_all S)) (hwf.inj _ (St.cur_all S)) (by omega))
  have H := Lib.hid h
  have HR := Lib.hid hR
  have HT := Lib.hid hT
  have Hroomb := Lib.hid hroom
  have Hl := Lib.hid hl
  have Hwf := Lib.hid hwf
  clear h hR hbd hbb hbdg hbbg hl hwf
  go_enter Try.func26, Try.ntmps26
  go_upto_region 1 with (fail)
  go_cut [14] from 5 to 13 (fun v14 wx => ∃ (W : World) (b : Bool), W = wx ∧ v14 = .bool b ∧ (b = true → room < ((S.total + n : Nat) : Int)) ∧ Grow w W)
  case first Jx Kx hJx hMx =>
    refine wp_region_stages (by kernel_rfl) ?_
    refine anyOrder_start [] (Keep (fun _ => False)) ((fun _ W => Grow w W)) (FactsOn [.is (.pointer (some ⟨g, 0, none⟩)), .upTo S.total, .is (.slice A n cp), .is (.int .i64 (n : Int)), .upTo (S.total + n), .is (.pointer (some ⟨g, 0, none⟩)), .is (.pointer (some ⟨g, 0, none⟩)), .is (.pointer (some ⟨g, 0, none⟩)), .is (.int .i64 room), .onlyIf (room < ((S.total + n : Nat) : Int))]) (fun i => 99) keep_trans keep_grow (fun _ _ _ hg h => Grow.trans h hg) (factsOn_mono _) (by kernel_rfl) (by kernel_rfl) (Grow.refl _) ?_ ?_
    · refine ⟨?_, ?_, ?_, ?_, ?_, ?_, ?_, ?_, ?_, ?_, trivial⟩
      · refine stageOf_free rfl (fun _ _ _ _ _ _ => wanted_none rfl) ?_
        intro us vals w3 a' ha hle hW hd hv K hK
        have q1 : a'.tmps[1]? = some (.pointer (some ⟨bd, 0, none⟩)) := slot_old ha (by kernel_rfl) (by kernel_rfl)
        have hc := Hd.out w3 (Keep.grow hW)
        refine step_value (v := .pointer (some ⟨g, 0, none⟩)) (w2 := w3) ?_ (hK _ _ (Grow.refl _) rfl)
        go_simp
      · refine stageOf_free rfl (fun _ _ _ _ _ _ => wanted_none rfl) ?_
        intro us vals w3 a' ha hle hW hd hv K hK
        obtain ⟨d0, _⟩ := hd
        have q5 : a'.tmps[5]? = some (us 0) := slot_get ha 0 (by kernel_rfl) (by kernel_rfl)
        rw [show us 0 = .pointer (some ⟨g, 0, none⟩) from d0] at q5
        refine step_call (f := 27) (args := #[pg g]) (by go_simp) ?_
        refine (Hbytes.out w3 hW).mono ?_
        rintro e w4 ⟨r, rfl, hr, hg⟩
        exact ⟨_, rfl, hK _ _ hg ⟨r, rfl, hr⟩⟩
      · refine stageOf_free rfl (fun _ _ _ _ _ _ => wanted_none rfl) ?_
        intro us vals w3 a' ha hle hW hd hv K hK
        have q2 : a'.tmps[2]? = some (.pointer (some ⟨bb, 0, none⟩)) := slot_old ha (by kernel_rfl) (by kernel_rfl)
        have hc := Hb.out w3 (Keep.grow hW)
        refine step_value (v := .slice A n cp) (w2 := w3) ?_ (hK _ _ (Grow.refl _) rfl)
        go_simp
      · refine stageOf_free rfl (fun _ _ _ _ _ _ => wanted_none rfl) ?_
        intro us vals w3 a' ha hle hW hd hv K hK
        obtain ⟨d2, _⟩ := hd
        have q7 : a'.tmps[7]? = some (us 2) := slot_get ha 2 (by kernel_rfl) (by kernel_rfl)
        rw [show us 2 = .slice A n cp from d2] at q7
        refine step_value (v := .int .i64 (n : Int)) (w2 := w3) ?_ (hK _ _ (Grow.refl _) rfl)
        go_simp
      · refine stageOf_free rfl (fun _ _ _ _ _ _ => wanted_none rfl) ?_
        intro us vals w3 a' ha hle hW hd hv K hK
        obtain ⟨⟨r1, u1, k1⟩, d3, _⟩ := hd
        have q6 : a'.tmps[6]? = some (us 1) := slot_get ha 1 (by kernel_rfl) (by kernel_rfl)
        rw [u1] at q6
        have q8 : a'.tmps[8]? = some (us 3) := slot_get ha 3 (by kernel_rfl) (by kernel_rfl)
        rw [show us 3 = .int .i64 (n : Int) from d3] at q8
        have hT := HT.out
        refine step_value (v := .int .i64 ((r1 + n : Nat) : Int)) (w2 := w3) ?_ (hK _ _ (Grow.refl _) ⟨r1 + n, rfl, by omega⟩)
        go_simp
        exact IntWalk.i64_in _ (by omega)
      · refine stageOf_free rfl (fun _ _ _ _ _ _ => wanted_none rfl) ?_
        intro us vals w3 a' ha hle hW hd hv K hK
        have q1 : a'.tmps[1]? = some (.pointer (some ⟨bd, 0, none⟩)) := slot_old ha (by kernel_rfl) (by kernel_rfl)
        have hc := Hd.out w3 (Keep.grow hW)
        refine step_value (v := .pointer (some ⟨g, 0, none⟩)) (w2 := w3) ?_ (hK _ _ (Grow.refl _) rfl)
        go_simp
      · refine stageOf_free rfl (fun _ _ _ _ _ _ => wanted_none rfl) ?_
        intro us vals w3 a' ha hle hW hd hv K hK
        obtain ⟨d5, _⟩ := hd
        have q10 : a'.tmps[10]? = some (us 5) := slot_get ha 5 (by kernel_rfl) (by kernel_rfl)
        rw [show us 5 = .pointer (some ⟨g, 0, none⟩) from d5] at q10
        refine step_value (v := .pointer (some ⟨g, 0, none⟩)) (w2 := w3) ?_ (hK _ _ (Grow.refl _) rfl)
        go_simp
      · refine stageOf_free rfl (fun _ _ _ _ _ _ => wanted_none rfl) ?_
        intro us vals w3 a' ha hle hW hd hv K hK
        obtain ⟨d6, _⟩ := hd
        have q11 : a'.tmps[11]? = some (us 6) := slot_get ha 6 (by kernel_rfl) (by kernel_rfl)
        rw [show us 6 = .pointer (some ⟨g, 0, none⟩) from d6] at q11
        refine step_value (v := .pointer (some ⟨g, 0, none⟩)) (w2 := w3) ?_ (hK _ _ (Grow.refl _) rfl)
        go_simp
      · refine stageOf_free rfl (fun _ _ _ _ _ _ => wanted_none rfl) ?_
        intro us vals w3 a' ha hle hW hd hv K hK
        obtain ⟨d7, _⟩ := hd
        have q12 : a'.tmps[12]? = some (us 7) := slot_get ha 7 (by kernel_rfl) (by kernel_rfl)
        rw [show us 7 = .pointer (some ⟨g, 0, none⟩) from d7] at q12
        have hc := Hroom.out w3 hW
        refine step_value (v := .int .i64 room) (w2 := w3) ?_ (hK _ _ (Grow.refl _) rfl)
        go_simp
      · refine stageOf_free rfl (fun _ _ _ _ _ _ => wanted_none rfl) ?_
        intro us vals w3 a' ha hle hW hd hv K hK
        obtain ⟨⟨r4, u4, k4⟩, d8, _⟩ := hd
        have q9 : a'.tmps[9]? = some (us 4) := slot_get ha 4 (by kernel_rfl) (by kernel_rfl)
        rw [u4] at q9
        have q13 : a'.tmps[13]? = some (us 8) := slot_get ha 8 (by kernel_rfl) (by kernel_rfl)
        rw [show us 8 = .int .i64 room from d8] at q13
        refine step_value (v := .bool (decide (room < (r4 : Int)))) (w2 := w3) ?_ (hK _ _ (Grow.refl _) ⟨_, rfl, fun hd2 => by have := of_decide_eq_true hd2; omega⟩)
        go_simp
    · intro us vals w5 hle hvl hW ht hf
      obtain ⟨b, h1, h2⟩ := hf 9 (by decide) rfl
      exact hMx _ _ (Met.intro (hJx _ _ ⟨us 0, us 1, us 2, us 3, us 4, us 5, us 6, us 7, us 8, us 9, ⟨_, b, rfl, h1, h2, hW⟩, by kernel_rfl⟩))
  case rest =>
  obtain ⟨w5, b, rfl, rfl, himp, hg5⟩ := hcut
  have Himp := Lib.hid himp
  have Hg5 := Lib.hid hg5
  clear himp hg5 Hbytes Hroom
  cases b with
  | true =>
    go_wp2_with fail
    go_ret
    refine ⟨_, rfl, Below.mono Hg5.out hb, Or.inl ⟨rfl, Or.inr (Himp.out (by simp)), S.full, Nat.le_refl _, Hwf.out.fullTo (Nat.le_refl _), mb, uv, fs, t, c, rv, ?_⟩⟩
    exact H.out.grow Hg5.out
  | false =>
  have hx5 := H.out.grow Hg5.out
  obtain ⟨y, hy⟩ : ∃ y : Int, y = (S.full : Int) - 1 := ⟨_, rfl⟩
  have hyb : -1 ≤ y ∧ y ≤ 9223372036854775806 := by
    have := Hwf.out.full
    omega
  have hfy : (S.full : Int) = y + 1 := by omega
  obtain ⟨w6, hw6⟩ : ∃ w6, w5.setCell ⟨g, 4, none⟩ (.int .i64 y) = w6 := ⟨_, rfl⟩
  have hks : Keep (fun j => j = g) w5 w6 := by rw [← hw6]; exact Keep.setCell w5 ⟨g, 4, none⟩ _
  have hd6 : Blk w6 g 51 (diskC room mb uv (S.armed : Int) y t c S.down) := by
    rw [← hw6]
    exact hx5.disk.set 4 _
  have hk6 : Keep (fun j => j = g) w w6 := (Keep.grow Hg5.out).trans' hks
  have hc0 := Hd.out w5 (Keep.grow Hg5.out)
  have hc4 : w5.cell? ⟨g, 4, none⟩ = some (.int .i64 (y + 1)) := by rw [← hfy]; exact hx5.disk.cell 4
  have hz4 := hx5.disk.frozen 4
  have hc06 := Hd.out w6 hk6
  have hc46 := hd6.cell 4
  have hz46 := hd6.frozen 4
  have Hd6 := Lib.hid hd6
  have Hk6 := Lib.hid hk6
  have Hks := Lib.hid hks
  have Hx5 := Lib.hid hx5
  have Hy := Lib.hid hfy
  clear hx5 hfy hy hd6 hk6 hks
  have hwr : IntKind.i64.wrap (y + 1 - 1) = y := by
    rw [show y + 1 - 1 = y by omega]
    exact IntWalk.i64_in _ (by omega)
  by_cases hy0 : y = 0
  · have hyz : (y == 0) = true := by rw [hy0]; rfl
    have Hy0 := Lib.hid hy0
    clear hy0
    go_wp2_with fail
    go_ret
    have hf1 : S.full = 1 := by
      have := Hy.out
      have := Hy0.out
      omega
    refine ⟨_, rfl, (Below.mono Hg5.out hb).trans (Hks.out.below (fun j hj => by rw [hj]; exact H.out.ge) (Nat.le_trans hb Hg5.out.size)), Or.inl ⟨rfl, Or.inl hf1, 0, Nat.zero_le _, Hwf.out.fullTo (Nat.zero_le _), mb, uv, fs, t, c, rv, ?_⟩⟩
    have hd := Hd6.out
    rw [Hy0.out] at hd
    exact Hx5.out.cells (S' := S.fullTo 0) Hks.out hd rfl rfl rfl rfl rfl
  have hyz : (y == 0) = false := by rw [beq_eq_false_iff_ne]; exact hy0
  obtain ⟨z, hz⟩ : ∃ z : Int, z = max y 0 := ⟨_, rfl⟩
  have Hmx := Lib.hid hz.symm
  have Hz := Lib.hid (show z = ((S.full - 1 : Nat) : Int) by
    have := Hy.out
    omega)
  have Hf1 := Lib.hid (show S.full ≠ 1 by
    have := Hy.out
    omega)
  clear hz hy0
  go_upto_region 6 with (fail)
  go_cut [] from 27 to 34 (fun wx => ∃ W : World, W = wx ∧ Keep (fun j => j = g) w6 W ∧ Blk W g 51 (diskC room mb uv (S.armed : Int) z t c S.down))
  case first Jx Kx hJx hMx =>
    refine wp_region_stages (by kernel_rfl) ?_
    refine anyOrder_start [8] (Keep (fun j => j = g)) (fullW w6 g (diskC room mb uv (S.armed : Int) y t c S.down) (diskC room mb uv (S.armed : Int) z t c S.down)) (FactsOn [.is (.pointer (some ⟨g, 0, none⟩)), .is (.pointer (some ⟨g, 0, none⟩)), .is (.pointer (some ⟨g, 0, none⟩)), .is (.pointer (some ⟨g, 4, none⟩)), .is (.int .i64 y), .is (.int .i64 z), .is (.pointer (some ⟨g, 0, none⟩)), .is (.pointer (some ⟨g, 4, none⟩)), .any]) (fun i => if i = 0 then 0 else if i = 1 then 0 else if i = 4 then 0 else 99) keep_trans keep_grow (fullW.grow) (factsOn_mono _) (by kernel_rfl) (by kernel_rfl) ⟨Grow.refl _, Hd6.out⟩ ?_ ?_
    · refine ⟨?_, ?_, ?_, ?_, ?_, ?_, ?_, ?_, ?_, trivial⟩
      · refine stageOf_free rfl (fun _ _ _ _ _ _ => wanted_none rfl) ?_
        intro us vals w3 a' ha hle hW hd hv K hK
        obtain rfl := List.eq_nil_of_length_eq_zero (Nat.le_zero.1 (show vals.length ≤ 0 from hv))
        have q1 : a'.tmps[1]? = some (.pointer (some ⟨bd, 0, none⟩)) := slot_old ha (by kernel_rfl) (by kernel_rfl)
        have hc := Hd.out w3 (Hk6.out.trans' (Keep.grow hW.1))
        refine step_value (v := .pointer (some ⟨g, 0, none⟩)) (w2 := w3) ?_ (hK _ _ (Grow.refl _) rfl)
        go_simp
      · refine stageOf_free rfl (fun _ _ _ _ _ _ => wanted_none rfl) ?_
        intro us vals w3 a' ha hle hW hd hv K hK
        obtain rfl := List.eq_nil_of_length_eq_zero (Nat.le_zero.1 (show vals.length ≤ 0 from hv))
        have q1 : a'.tmps[1]? = some (.pointer (some ⟨bd, 0, none⟩)) := slot_old ha (by kernel_rfl) (by kernel_rfl)
        have hc := Hd.out w3 (Hk6.out.trans' (Keep.grow hW.1))
        refine step_value (v := .pointer (some ⟨g, 0, none⟩)) (w2 := w3) ?_ (hK _ _ (Grow.refl _) rfl)
        go_simp
      · refine stageOf_free rfl (fun _ _ _ _ _ _ => wanted_none rfl) ?_
        intro us vals w3 a' ha hle hW hd hv K hK
        obtain ⟨d1, _⟩ := hd
        have q28 : a'.tmps[28]? = some (us 1) := slot_get ha 1 (by kernel_rfl) (by kernel_rfl)
        rw [show us 1 = .pointer (some ⟨g, 0, none⟩) from d1] at q28
        refine step_value (v := .pointer (some ⟨g, 0, none⟩)) (w2 := w3) ?_ (hK _ _ (Grow.refl _) rfl)
        go_simp
      · refine stageOf_free rfl (fun _ _ _ _ _ _ => wanted_none rfl) ?_
        intro us vals w3 a' ha hle hW hd hv K hK
        obtain ⟨d2, _⟩ := hd
        have q29 : a'.tmps[29]? = some (us 2) := slot_get ha 2 (by kernel_rfl) (by kernel_rfl)
        rw [show us 2 = .pointer (some ⟨g, 0, none⟩) from d2] at q29
        refine step_value (v := .pointer (some ⟨g, 4, none⟩)) (w2 := w3) ?_ (hK _ _ (Grow.refl _) rfl)
        go_simp
      · refine stageOf_free rfl (fun _ _ _ _ _ _ => wanted_none rfl) ?_
        intro us vals w3 a' ha hle hW hd hv K hK
        obtain ⟨d3, _⟩ := hd
        obtain rfl := List.eq_nil_of_length_eq_zero (Nat.le_zero.1 (show vals.length ≤ 0 from hv))
        have q30 : a'.tmps[30]? = some (us 3) := slot_get ha 3 (by kernel_rfl) (by kernel_rfl)
        rw [show us 3 = .pointer (some ⟨g, 4, none⟩) from d3] at q30
        have hc := hW.2.cell 4
        refine step_value (v := .int .i64 y) (w2 := w3) ?_ (hK _ _ (Grow.refl _) rfl)
        go_simp
      · refine stageOf_free rfl (fun _ _ _ _ _ _ => wanted_none rfl) ?_
        intro us vals w3 a' ha hle hW hd hv K hK
        obtain ⟨d4, _⟩ := hd
        have q31 : a'.tmps[31]? = some (us 4) := slot_get ha 4 (by kernel_rfl) (by kernel_rfl)
        rw [show us 4 = .int .i64 y from d4] at q31
        have hmx := Hmx.out
        refine step_value (v := .int .i64 z) (w2 := w3) ?_ (hK _ _ (Grow.refl _) rfl)
        go_simp
      · refine stageOf_free rfl (fun _ _ _ _ _ _ => wanted_none rfl) ?_
        intro us vals w3 a' ha hle hW hd hv K hK
        obtain ⟨d0, _, _, _, _, _, _, _⟩ := hd
        have q27 : a'.tmps[27]? = some (us 0) := slot_get ha 0 (by kernel_rfl) (by kernel_rfl)
        rw [show us 0 = .pointer (some ⟨g, 0, none⟩) from d0] at q27
        refine step_value (v := .pointer (some ⟨g, 0, none⟩)) (w2 := w3) ?_ (hK _ _ (Grow.refl _) rfl)
        go_simp
      · refine stageOf_free rfl (fun _ _ _ _ _ _ => wanted_none rfl) ?_
        intro us vals w3 a' ha hle hW hd hv K hK
        obtain ⟨d6, _, _, _, _, _, _, _⟩ := hd
        have q33 : a'.tmps[33]? = some (us 6) := slot_get ha 6 (by kernel_rfl) (by kernel_rfl)
        rw [show us 6 = .pointer (some ⟨g, 0, none⟩) from d6] at q33
        refine step_value (v := .pointer (some ⟨g, 4, none⟩)) (w2 := w3) ?_ (hK _ _ (Grow.refl _) rfl)
        go_simp
      · refine stageOf_mem (t := 0) rfl ?_
        intro us vals w3 a' ha hle hW hd hv
        obtain ⟨d7, d5, _, _, _, _, _, _, _⟩ := hd
        obtain rfl := List.eq_nil_of_length_eq_zero (Nat.le_zero.1 (show vals.length ≤ 0 from Nat.le_of_eq hv))
        refine ⟨wanted_none rfl, fun K hK => ?_⟩
        have q34 : a'.tmps[34]? = some (us 7) := slot_get ha 7 (by kernel_rfl) (by kernel_rfl)
        rw [show us 7 = .pointer (some ⟨g, 4, none⟩) from d7] at q34
        have q32 : a'.tmps[32]? = some (us 5) := slot_get ha 5 (by kernel_rfl) (by kernel_rfl)
        rw [show us 5 = .int .i64 z from d5] at q32
        have hc := hW.2.cell 4
        have hz := hW.2.frozen 4
        exact wp_store1 3 34 32 rfl q34 q32 (by go_simp) (hK _ _ (Keep.setCell w3 ⟨g, 4, none⟩ _) ⟨(Keep.grow hW.1).trans' (Keep.setCell w3 ⟨g, 4, none⟩ _), hW.2.set 4 _⟩)
    · intro us vals w7 hle hvl hW ht hf
      obtain ⟨x, rfl⟩ := List.length_eq_one_iff.1 hvl
      exact hMx _ _ (Met.intro (hJx _ _ ⟨us 0, us 1, us 2, us 3, us 4, us 5, us 6, us 7, ⟨_, rfl, hW.1, hW.2⟩, by kernel_rfl⟩))
  case rest =>
  obtain ⟨w7, rfl, hk67, hd7⟩ := hcut
  have hk57 : Keep (fun j => j = g) w5 w7 := Hks.out.trans' hk67
  have hk7 : Keep (fun j => j = g) w w7 := (Keep.grow Hg5.out).trans' hk57
  have hx7 : VX w7 g base room (S.fullTo (S.full - 1)) S.cur mb uv fs t c rv := by
    rw [Hz.out] at hd7
    exact Hx5.out.cells (S' := S.fullTo (S.full - 1)) hk57 hd7 rfl rfl rfl rfl rfl
  obtain ⟨hidge, d0, hf7⟩ := hx7.file id hid
  have hrow := hx7.row id hid
  obtain ⟨A0, c0, e0, -, -, -⟩ := own_reads hrow
  obtain ⟨n0, hn0⟩ : ∃ n0, n0 = ((S.fullTo (S.full - 1)).con id).1.length := ⟨_, rfl⟩
  obtain ⟨s0, hs0⟩ : ∃ s0 : Int, s0 = (((S.fullTo (S.full - 1)).con id).2 : Int) := ⟨_, rfl⟩
  obtain ⟨xs0, hxs0⟩ : ∃ xs0, xs0 = ((S.fullTo (S.full - 1)).con id).1.map b8 := ⟨_, rfl⟩
  have hlen : n0 + n ≤ 1000000 := by
    have h1 := sumL_erase (lenF S) hid
    have h2 : S.total = sumL (lenF S) S.ids := rfl
    have h3 : n0 = lenF S id := hn0
    have := HT.out
    omega
  rw [← hn0] at e0
  rw [e0, ← hs0] at hf7
  rw [e0, ← hn0, ← hxs0] at hrow
  have Hne := Lib.hid (show ¬ (Value.slice A0 n0 c0).ownBlock = some id from fun e => absurd (own_type_blk hrow e hf7) (by decide))
  have Hf7 := Lib.hid hf7
  have Hown := Lib.hid hrow
  have Hv := Lib.hid (show ∀ W, Grow w7 W → W.cell? ⟨id, 0, none⟩ = some (.slice A0 n0 c0) from fun W h => (hf7.below h hf7.lt).cell 0)
  have Hb7 := Lib.hid (show ∀ W, Grow w7 W → W.cell? ⟨bb, 0, none⟩ = some (.slice A n cp) from fun W h => Hb.out W (hk7.trans' (Keep.grow h)))
  have HR7 := Lib.hid (show ∀ W, Grow w7 W → ReadsAt W B 1 A n (l.map b8) from fun W h => HR.out W (hk7.trans' (Keep.grow h)))
  have hb7 : base ≤ w7.heap.size := Nat.le_trans hb hk7.size
  have Hx7 := Lib.hid hx7
  have Hk7 := Lib.hid hk7
  have He0 := Lib.hid e0
  have Hn0 := Lib.hid hn0
  have Hs0 := Lib.hid hs0
  have Hxs0 := Lib.hid hxs0
  have Hidge := Lib.hid hidge
  clear hk67 hd7 hk57 hk7 hx7 hf7 hrow e0 hn0 hs0 hxs0 hidge hc0 hc4 hz4 hc06 hc46 hz46 hwr hyz hyb
  go_upto_region 7 with (fail)
  go_cut [] from 35 to 45 (fun wx => ∃ (W : World) (v : Value), W = wx ∧ Blk W id 58 #[v, .int .i64 s0, .bool d0] ∧ W.ownsRow base 5 1 v (n0 + n) (xs0 ++ l.map b8) ∧ Keep (fun j => j = id ∨ (Value.slice A0 n0 c0).ownBlock = some j) w7 W ∧ (∀ b, v.ownBlock = some b → (Value.slice A0 n0 c0).ownBlock = some b ∨ w7.heap.size ≤ b))
  case first Jx Kx hJx hMx =>
    refine wp_region_stages (by kernel_rfl) ?_
    refine anyOrder_start [7, 11] (Keep (fun j => j = id ∨ (Value.slice A0 n0 c0).ownBlock = some j)) (appFW w7 base id (n0 + n) (.slice A0 n0 c0) s0 d0 (xs0 ++ l.map b8)) (FactsOn [.is (.pointer (some ⟨id, 0, none⟩)), .is (.pointer (some ⟨id, 0, none⟩)), .is (.pointer (some ⟨id, 0, none⟩)), .is (.pointer (some ⟨id, 0, none⟩)), .is (.pointer (some ⟨id, 0, none⟩)), .is (.slice A0 n0 c0), .is (.slice A n cp), .any, .is (.pointer (some ⟨id, 0, none⟩)), .is (.pointer (some ⟨id, 0, none⟩)), .is (.pointer (some ⟨id, 0, none⟩)), .any]) (fun i => if i = 5 then 0 else if i = 6 then 0 else 99) keep_trans keep_grow (appFW.grow) (factsOn_mono _) (by kernel_rfl) (by kernel_rfl) (Grow.refl _) ?_ ?_
    · refine ⟨?_, ?_, ?_, ?_, ?_, ?_, ?_, ?_, ?_, ?_, ?_, ?_, trivial⟩
      · refine stageOf_free rfl (fun _ _ _ _ _ _ => wanted_none rfl) ?_
        intro us vals w3 a' ha hle hW hd hv K hK
        have q0 : a'.tmps[0]? = some (.pointer (some ⟨id, 0, none⟩)) := slot_old ha (by kernel_rfl) (by kernel_rfl)
        refine step_value (v := .pointer (some ⟨id, 0, none⟩)) (w2 := w3) ?_ (hK _ _ (Grow.refl _) rfl)
        go_simp
      · refine stageOf_free rfl (fun _ _ _ _ _ _ => wanted_none rfl) ?_
        intro us vals w3 a' ha hle hW hd hv K hK
        have q0 : a'.tmps[0]? = some (.pointer (some ⟨id, 0, none⟩)) := slot_old ha (by kernel_rfl) (by kernel_rfl)
        refine step_value (v := .pointer (some ⟨id, 0, none⟩)) (w2 := w3) ?_ (hK _ _ (Grow.refl _) rfl)
        go_simp
      · refine stageOf_free rfl (fun _ _ _ _ _ _ => wanted_none rfl) ?_
        intro us vals w3 a' ha hle hW hd hv K hK
        obtain ⟨d1, _⟩ := hd
        have q36 : a'.tmps[36]? = some (us 1) := slot_get ha 1 (by kernel_rfl) (by kernel_rfl)
        rw [show us 1 = .pointer (some ⟨id, 0, none⟩) from d1] at q36
        refine step_value (v := .pointer (some ⟨id, 0, none⟩)) (w2 := w3) ?_ (hK _ _ (Grow.refl _) rfl)
        go_simp
      · refine stageOf_free rfl (fun _ _ _ _ _ _ => wanted_none rfl) ?_
        intro us vals w3 a' ha hle hW hd hv K hK
        obtain ⟨d2, _⟩ := hd
        have q37 : a'.tmps[37]? = some (us 2) := slot_get ha 2 (by kernel_rfl) (by kernel_rfl)
        rw [show us 2 = .pointer (some ⟨id, 0, none⟩) from d2] at q37
        refine step_value (v := .pointer (some ⟨id, 0, none⟩)) (w2 := w3) ?_ (hK _ _ (Grow.refl _) rfl)
        go_simp
      · refine stageOf_free rfl (fun _ _ _ _ _ _ => wanted_none rfl) ?_
        intro us vals w3 a' ha hle hW hd hv K hK
        obtain ⟨d3, _⟩ := hd
        have q38 : a'.tmps[38]? = some (us 3) := slot_get ha 3 (by kernel_rfl) (by kernel_rfl)
        rw [show us 3 = .pointer (some ⟨id, 0, none⟩) from d3] at q38
        refine step_value (v := .pointer (some ⟨id, 0, none⟩)) (w2 := w3) ?_ (hK _ _ (Grow.refl _) rfl)
        go_simp
      · refine stageOf_free rfl (fun _ _ _ _ _ _ => wanted_none rfl) ?_
        intro us vals w3 a' ha hle hW hd hv K hK
        obtain ⟨d4, _⟩ := hd
        obtain rfl := List.eq_nil_of_length_eq_zero (Nat.le_zero.1 (show vals.length ≤ 0 from hv))
        have q39 : a'.tmps[39]? = some (us 4) := slot_get ha 4 (by kernel_rfl) (by kernel_rfl)
        rw [show us 4 = .pointer (some ⟨id, 0, none⟩) from d4] at q39
        have hc := Hv.out w3 hW
        refine step_value (v := .slice A0 n0 c0) (w2 := w3) ?_ (hK _ _ (Grow.refl _) rfl)
        go_simp
      · refine stageOf_free rfl (fun _ _ _ _ _ _ => wanted_none rfl) ?_
        intro us vals w3 a' ha hle hW hd hv K hK
        obtain rfl := List.eq_nil_of_length_eq_zero (Nat.le_zero.1 (show vals.length ≤ 0 from hv))
        have q2 : a'.tmps[2]? = some (.pointer (some ⟨bb, 0, none⟩)) := slot_old ha (by kernel_rfl) (by kernel_rfl)
        have hc := Hb7.out w3 hW
        refine step_value (v := .slice A n cp) (w2 := w3) ?_ (hK _ _ (Grow.refl _) rfl)
        go_simp
      · refine stageOf_mem (t := 0) rfl ?_
        intro us vals w3 a' ha hle hW hd hv
        obtain ⟨d5, d6, _⟩ := hd
        obtain rfl := List.eq_nil_of_length_eq_zero (Nat.le_zero.1 (show vals.length ≤ 0 from Nat.le_of_eq hv))
        refine ⟨wanted_none rfl, fun K hK => ?_⟩
        have q40 : a'.tmps[40]? = some (us 5) := slot_get ha 5 (by kernel_rfl) (by kernel_rfl)
        rw [show us 5 = .slice A0 n0 c0 from d5] at q40
        have q41 : a'.tmps[41]? = some (us 6) := slot_get ha 6 (by kernel_rfl) (by kernel_rfl)
        rw [show us 6 = .slice A n cp from d6] at q41
        have hbz : base ≤ w3.heap.size := Nat.le_trans hb7 (show Grow w7 w3 from hW).size
        refine wp_append_reads w3 (.tmp 40) (.tmp 41) rfl vbytesTy (evalT q40) (own_below Hown.out hW) (evalT q41) (HR7.out w3 hW) (fun u hu => ?_) (by simp only [maxLen]; omega) (by omega) hbz ?_
        · obtain ⟨x, -, rfl⟩ := List.mem_map.1 hu
          rfl
        · intro v' w4 ho hg hat
          exact hK _ _ ((Keep.grown hg).mono fun j hj => Or.inl (Or.inr hj)) ⟨ho, (Keep.grow hW).trans' (Keep.grown hg), fun b hb => hat.elim (fun e => Or.inl (by rw [← e]; exact hb)) (fun e => by rw [e] at hb; injection hb with hb; subst hb; exact Or.inr (show Grow w7 w3 from hW).size)⟩
      · refine stageOf_free rfl (fun _ _ _ _ _ _ => wanted_none rfl) ?_
        intro us vals w3 a' ha hle hW hd hv K hK
        obtain ⟨d0, _, _, _, _, _, _, _, _, _⟩ := hd
        have q35 : a'.tmps[35]? = some (us 0) := slot_get ha 0 (by kernel_rfl) (by kernel_rfl)
        rw [show us 0 = .pointer (some ⟨id, 0, none⟩) from d0] at q35
        refine step_value (v := .pointer (some ⟨id, 0, none⟩)) (w2 := w3) ?_ (hK _ _ (Grow.refl _) rfl)
        go_simp
      · refine stageOf_free rfl (fun _ _ _ _ _ _ => wanted_none rfl) ?_
        intro us vals w3 a' ha hle hW hd hv K hK
        obtain ⟨d8, _, _, _, _, _, _, _, _, _⟩ := hd
        have q43 : a'.tmps[43]? = some (us 8) := slot_get ha 8 (by kernel_rfl) (by kernel_rfl)
        rw [show us 8 = .pointer (some ⟨id, 0, none⟩) from d8] at q43
        refine step_value (v := .pointer (some ⟨id, 0, none⟩)) (w2 := w3) ?_ (hK _ _ (Grow.refl _) rfl)
        go_simp
      · refine stageOf_free rfl (fun _ _ _ _ _ _ => wanted_none rfl) ?_
        intro us vals w3 a' ha hle hW hd hv K hK
        obtain ⟨d9, _, _, _, _, _, _, _, _, _⟩ := hd
        have q44 : a'.tmps[44]? = some (us 9) := slot_get ha 9 (by kernel_rfl) (by kernel_rfl)
        rw [show us 9 = .pointer (some ⟨id, 0, none⟩) from d9] at q44
        refine step_value (v := .pointer (some ⟨id, 0, none⟩)) (w2 := w3) ?_ (hK _ _ (Grow.refl _) rfl)
        go_simp
      · refine stageOf_mem (t := 1) rfl ?_
        intro us vals w3 a' ha hle hW hd hv
        obtain ⟨d10, d7, _, _, _, _, _, _, _, _, _, _⟩ := hd
        obtain ⟨x0, rfl⟩ := List.length_eq_one_iff.1 hv
        obtain rfl : us 7 = x0 := by have h0 : some x0 = some (us 7) := d7; injection h0 with h0; exact h0.symm
        refine ⟨wanted_none rfl, fun K hK => ?_⟩
        have q45 : a'.tmps[45]? = some (us 10) := slot_get ha 10 (by kernel_rfl) (by kernel_rfl)
        rw [show us 10 = .pointer (some ⟨id, 0, none⟩) from d10] at q45
        have q42 : a'.tmps[42]? = some (us 7) := slot_get ha 7 (by kernel_rfl) (by kernel_rfl)
        obtain ⟨ho, hk, hn⟩ := hW
        have hf := hk.blk Hf7.out Hne.out
        have hc := hf.cell 0
        have hz := hf.frozen 0
        obtain ⟨A2, c2, e2, -, -, -⟩ := own_reads ho
        have hks : Keep (fun j => j = id) w3 (w3.setCell ⟨id, 0, none⟩ (us 7)) := Keep.setCell w3 ⟨id, 0, none⟩ _
        refine wp_store1 22 45 42 rfl q45 q42 (w' := w3.setCell ⟨id, 0, none⟩ (us 7)) ?_ (hK _ _ (hks.mono fun j hj => Or.inl (Or.inl hj)) ⟨us 7, hf.set 0 _, hks.own ho (fun j hj e => ?_), (hk.mono fun j hj => Or.inl (Or.inr hj)).trans' (hks.mono fun j hj => Or.inl (Or.inl hj)), hn⟩)
        · rw [e2]
          go_simp
        · have e : j = id := e
          subst e
          exact absurd (own_type_blk ho hj hf) (by decide)
    · intro us vals w8 hle hvl hW ht hf
      obtain ⟨x, y, rfl⟩ : ∃ x y, vals = [x, y] := by
        match vals, hvl with
        | [x, y], _ => exact ⟨x, y, rfl⟩
      obtain ⟨v, h1, h2, h3, h4⟩ := hW
      exact hMx _ _ (Met.intro (hJx _ _ ⟨us 0, us 1, us 2, us 3, us 4, us 5, us 6, us 7, us 8, us 9, us 10, ⟨_, v, rfl, h1, h2, h3, h4⟩, by kernel_rfl⟩))
  case rest =>
  obtain ⟨w8, v, rfl, h1, h2, h3, h4⟩ := hcut
  have H1 := Lib.hid h1
  have H2 := Lib.hid h2
  have H3 := Lib.hid h3
  have H4 := Lib.hid h4
  clear h1 h2 h3 h4
  go_wp2_with fail
  go_ret
  have h3 := H3.out
  rw [← He0.out] at h3
  have hown := H2.out
  have hbelow : Below base w w8 := ((Hk7.out.below (fun j hj => by rw [hj]; exact H.out.ge) hb)).trans (H3.out.below (fun j hj => by
    rcases hj with rfl | hj
    · exact Hidge.out
    · exact own_ge Hown.out hj) hb7)
  refine ⟨0, rfl, hbelow, Or.inr ⟨rfl, Hf1.out, ?_, mb, uv, fs, t, c, _, Hx7.out.fileTo (p := (((S.fullTo (S.full - 1)).con id).1 ++ l, ((S.fullTo (S.full - 1)).con id).2)) (nv := v) (d := d0) hid h3 (by rw [← Hs0.out]; exact H1.out) ?_ (fun b hb => by rw [He0.out]; exact H4.out b hb)⟩⟩
  · refine Wf.setF (Hwf.out.fullTo (Nat.sub_le _ _)) (Nat.le_trans (Hwf.out.safe id hid) (by simp)) ?_
    simp only [List.length_append, Hl.out]
    have := Hn0.out
    have e : ((S.fullTo (S.full - 1)).con id).1.length = (S.con id).1.length := rfl
    omega
  · simp only [List.length_append, List.map_append, Hl.out]
    rw [← Hn0.out, ← Hxs0.out]
    exact hown
/-- what Append makes of a disk -/
def AppendTo (base g : Nat) (room : Int) (S : St) (name : ByteArray) (l : List UInt8) (w : World) (x : Int) (w' : World) : Prop :=
  Below base w w' ∧ ((turnE S ≠ 0 ∧ x = turnE S ∧ VAt w' g base room (turnS S)) ∨ (turnE S = 0 ∧ S.cur name.data.toList = none ∧ x = 10 ∧ VAt w' g base room (turnS S)) ∨
    (turnE S = 0 ∧ ∃ id, S.cur name.data.toList = some id ∧ ((x = 8 ∧ (S.full = 1 ∨ room < ((S.total + l.length : Nat) : Int)) ∧ ∃ f, f ≤ S.full ∧ VAt w' g base room ((turnS S).fullTo f)) ∨
      (x = 0 ∧ S.full ≠ 1 ∧ VAt w' g base room (((turnS S).fullTo (S.full - 1)).setF id ((S.con id).1 ++ l, (S.con id).2))))))
theorem turnS_total (S : St) : (turnS S).total = S.total := by
  unfold St.total lenF
  rw [turnS_ids, turnS_con]
set_option maxRecDepth 100000 in
set_option maxHeartbeats 1000000 in
theorem vAppend_any (w : World) (g base B : Nat) (room : Int) (S : St) (h : VAt w g base room S) (hb : base ≤ w.heap.size) (name : ByteArray) (hs : name.size ≤ maxLen) (A : Option Addr) (n cp : Nat) (l : List UInt8) (hl : l.length = n) (hR : ∀ W, Keep (fun j => j = g) w W → ReadsAt W B 1 A n (l.map b8)) (hT : S.total + n ≤ 1000000) (hroom : 0 ≤ room ∧ room ≤ 67108864) :
    Calls Try.prog 8 #[pg g, .string name, .slice A n cp] w fun e w' => ∃ x, e = .returned (.int .i64 x) ∧ AppendTo base g room S name l w x w' := by
  obtain ⟨w1, hw1⟩ : ∃ w1, (w.alloc (.cells #[pg g] 25)).alloc (.cells #[.slice A n cp] 22) = w1 := ⟨_, rfl⟩
  have hg1 : Grow w w1 := by rw [← hw1]; exact (Grow.alloc _ _).trans (Grow.alloc _ _)
  have hbd : Blk w1 w.heap.size 25 #[pg g] := by rw [← hw1]; exact (Blk.new _ _ _).alloc _
  have hbn : Blk w1 (w.heap.size + 1) 22 #[.slice A n cp] := by
    rw [← hw1]
    have h := Blk.new (w.alloc (.cells #[pg g] 25)) 22 #[.slice A n cp]
    simpa using h
  have h1 := h.grow hg1
  have hgl : g < w.heap.size := by
    obtain ⟨-, _, _, _, _, _, _, hx⟩ := h
    exact hx.disk.lt
  have hge : base ≤ g := by
    obtain ⟨-, _, _, _, _, _, _, hx⟩ := h
    exact hx.ge
  have hbg : ¬ (w.heap.size = g) := by omega
  have hbg2 : ¬ (w.heap.size + 1 = g) := by omega
  have hb1 : base ≤ w1.heap.size := Nat.le_trans hb hg1.size
  have Hon := Lib.hid (von_any w1 g base room S h1 name hs 26 #[pg w.heap.size, pg (w.heap.size + 1)] (fun _ _ => rfl) (AppendTo base g room S name l w)
    (fun ht W hW hk => ⟨(Below.mono hg1 hb).trans (hk.below (fun j hj => by rw [hj]; exact hge) hb1), Or.inl ⟨ht, rfl, hW⟩⟩)
    (fun ht hn W hW hk => ⟨(Below.mono hg1 hb).trans (hk.below (fun j hj => by rw [hj]; exact hge) hb1), Or.inr (Or.inl ⟨ht, hn, rfl, hW⟩)⟩)
    (fun ht id hid W mb uv fs t c rv hwf hx hk => by
      have hbW : base ≤ W.heap.size := Nat.le_trans hb1 hk.size
      have hi : id ∈ (turnS S).ids := hwf.refs _ (St.cur_all _) _ _ (by rw [turnS_cur]; exact hid)
      refine (vAppend1_any W g base B room (turnS S) mb uv fs t c rv hx hwf hbW id w.heap.size (w.heap.size + 1) hi (hk.blk hbd hbg) A n cp l (hk.blk hbn hbg2) hl (fun W' hk' => hR W' ((Keep.grow hg1).trans' (hk.trans' hk'))) (by rw [turnS_total]; exact hT) hroom).mono ?_
      rintro e W2 ⟨x, rfl, hbel, hx2⟩
      rw [turnS_full, turnS_con, turnS_total] at hx2
      refine ⟨x, rfl, ((Below.mono hg1 hb).trans (hk.below (fun j hj => by rw [hj]; exact hge) hb1)).trans hbel, Or.inr (Or.inr ⟨ht, id, hid, ?_⟩)⟩
      rw [hl]
      exact hx2))
  have hc := hbd.cell 0
  clear h hg1 hbd hbn h1 hgl hge hbg hbg2 hb1 hR
  go_enter Try.func8, Try.ntmps8
  go_upto_region 1 with (fail)
  (try rw [hw1])
  clear hw1
  go_wp2_with fail
  refine Hon.out.mono ?_
  rintro e w2 ⟨x, rfl, hx⟩
  have Hx := Lib.hid hx
  clear hx Hon
  go_wp2_with fail
  go_ret
  exact ⟨x, rfl, Hx.out⟩
end Go.Proofs.Ytcfhhekklakacaa
