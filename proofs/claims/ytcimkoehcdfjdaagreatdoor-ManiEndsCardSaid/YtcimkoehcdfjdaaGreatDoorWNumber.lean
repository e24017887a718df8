/-
  The walk of wire's Writer.Number.
-/
import Derived.Test.YtcimkoehcdfjdaaGreatDoorBaseD
import Derived.Deep.LoopGhost
import Derived.Deep.QuietTactic
import Derived.BigQuiet
import Derived.WalkMore
import Derived.IntWalk
import Derived.Laws.Shifts
import Derived.Test.YtcimkoehcdfjdaaGreatDoorRange
import Derived.Test.YtcimkoehcdfjdaaGreatDoorMarks
import Derived.Shelf.Abstract
import Derived.Shelf.RegionOpen
import Derived.OwnWalkIn
import Derived.TacticsInMore
import Derived.LoopNIn
import Derived.LoopIn
import Derived.Test.YtcimkoehcdfjdaaGreatDoorBaseC
import Derived.Deep.DeepCutAuto
import Derived.Deep.CutRange
import Derived.StillTailTactics
import Derived.BigRegion
import Derived.Great.Walk
namespace Go.Proofs.YtcimkoehcdfjdaaGreatDoor
open Go.RowKit Go.Shelf WireM
attribute [local go_sem] Oper.semAt_some

theorem enc_len : ∀ (k n : Nat), n < 2 ^ (7 * (k + 1)) → (enc n).length ≤ k + 1
 | 0, n, h => by
  rw [enc_small (by simpa using h)]
  simp
 | k + 1, n, h => by
  by_cases h1 : n < 128
  ·rw [enc_small h1]
   simp
  ·rw [enc_big (by omega), List.length_cons]
   have := enc_len k (n / 128) (by
    rw [Nat.div_lt_iff_lt_mul (by omega)]
    have e : 2 ^ (7 * (k + 1 + 1)) = 2 ^ (7 * (k + 1)) * 128 := by rw [show 7 * (k + 1 + 1) = 7 * (k + 1) + 7 by omega, Nat.pow_add]
    rw [← e]
    exact h)
   omega
theorem enc_len6 (n : Nat) (h : n ≤ 1099511627776) : (enc n).length ≤ 6 := enc_len 5 n (by omega)
def encAll (L : List Int) : List UInt8 := L.flatMap fun x => enc x.toNat
theorem encAll_len : ∀ (L : List Int), (∀ x ∈ L, 0 ≤ x ∧ x ≤ 1099511627776) → (encAll L).length ≤ 6 * L.length
 | [], _ => by simp [encAll]
 | x :: L, h => by
  have h1 := encAll_len L fun y hy => h y (by simp [hy])
  have h2 := h x (by simp)
  have h3 := enc_len6 x.toNat (by omega)
  simp only [encAll, List.flatMap_cons, List.length_append, List.length_cons] at h1 ⊢
  omega
theorem encAll_succ (L : List Int) (k : Nat) (x : Int) (h : L[k]? = some x) : encAll (L.take (k + 1)) = encAll (L.take k) ++ enc x.toNat := by
 rw [List.take_add_one, h]
 simp [encAll]
theorem fits_le {L : List Int} (h : fitsB L = true) : ∀ x ∈ L, 0 ≤ x ∧ x ≤ 1099511627776 := fun x hx => by
 have := List.all_eq_true.1 h x hx
 simp [badB] at this
 omega

structure NumOut (w : World) (B g : Nat) (v : Value) (l : List UInt8) (ms : List Nat) (W : World) : Prop where
 box : Blk W w.heap.size 65 #[.pointer (some ⟨g, 0, none⟩)]
 wr : ∃ v1, Wr 67 W B g v1 l false ∧ Foot w g v W v1
 marks : Marks (w.heap.size + 1) ms W
structure NumIn (w : World) (B g : Nat) (v : Value) (sb D lr : Nat) (rec : LoopState → Option Code → Loop) (ms : List Nat) (l : List UInt8) (W : World) : Prop where
 loop : W.heap[lr]? = some (.loop (rec .ready none))
 defers : W.heap[D]? = some (.deferred (some []))
 sept : ∃ u, Boxed W sb 3 u
 out : NumOut w B g v l ms W
section
variable {w W W' : World} {B g : Nat} {v : Value} {sb D lr : Nat} {rec : LoopState → Option Code → Loop} {ms : List Nat} {l : List UInt8}
theorem NumOut.moved (h : NumOut w B g v l ms W) (hg : g < w.heap.size) {S : Nat → Prop} (hk : Keep S W W') (h1 : ∀ k, S k → w.heap.size < k ∧ k ∉ ms) (h2 : ∀ k, S k → (∃ u, Boxed W k 3 u) ∨ (∃ o, W.heap[k]? = some o ∧ ∀ cs t fr, o ≠ .cells cs t fr)) : NumOut w B g v l ms W' := by
 obtain ⟨v1, hw, hf⟩ := h.wr
 have hS : ∀ k, FootS g v1 k → ¬ S k := fun k hk1 hk2 => by
  rcases h2 k hk2 with ⟨u, hu⟩ | ⟨o, ho, hc⟩
  ·exact hw.other (k := k) (t := 3) (cs := #[u]) hu (by decide) (by have := (h1 k hk2).1; omega) hk1
  ·exact hw.otherObj ho hc hk1
 exact ⟨hk.blk h.box (fun hs => by have := (h1 _ hs).1; omega), ⟨v1, hw.moved hk hS, hf.moved hk (fun k hs => Nat.le_of_lt (h1 k hs).1)⟩, h.marks.keep fun m hm => hk.block m (h.marks.lt hm) (fun hs => (h1 m hs).2 hm)⟩
theorem NumOut.wrote (h : NumOut w B g v l ms W) (hg : g < w.heap.size) {v1 v2 : Value} {l2 : List UInt8} (hw : Wr 67 W B g v1 l false) (hf : Foot w g v W v1) (hw2 : Wr 67 W' B g v2 l2 false) (hf2 : Foot W g v1 W' v2) : NumOut w B g v l2 ms W' :=
 ⟨hf2.keep.blk h.box (hw.other h.box (by decide) (by omega)), ⟨v2, hw2, hf.trans hf2⟩, h.marks.keep fun m hm => hf2.keep.block m (h.marks.lt hm) (hw.otherObj (h.marks.opened m hm) (by simp))⟩
end

set_option maxRecDepth 100000 in
set_option maxHeartbeats 4000000 in
theorem WNumber_as (w : World) (B g : Nat) (v : Value) (l : List UInt8) (bad : Bool) (A : Option Addr) (n c : Nat) (L : List Int) (hW : Wr 67 w B g v l bad) (hR : IntsAt w w.heap.size A n L) (hA : ∀ ad, A = some ad → ¬ FootS g v ad.block) (hl : l.length + 6 * n ≤ 140737488355328) (hn : n ≤ maxLen) (news : List UInt8) (nb : Bool) (Hnb : Hid (nb = (bad || !fitsB L))) (Hnews : Hid (news = if nb then [] else encAll L)) :
  Calls Tryz.prog 32 #[.pointer (some ⟨g, 0, none⟩), .slice A n c] w fun e w' => e = .returned (.tuple #[]) ∧ ∃ v', Wr 67 w' B g v' (l ++ news) nb ∧ Foot w g v w' v' := by
 have bytesTy : AppTy Tryz.prog 28 5 (.int .u8 0) 1 1 := AppTy.mk' Tryz.underlying28 (by kernel_rfl) rfl (by decide)
 have hT : 67 ≠ 5 := by decide
 have HA := Lib.hid hA
 clear hA
 refine (callsIn_wide (n := 4)).1 ?_
 refine callsIn_of_wp_marks Tryz.func32 rfl trivial ?_ rfl
 simp only [Tryz.ntmps32, List.size_toArray, List.length_cons, List.length_nil, Nat.reduceSub, Nat.reduceAdd, Array.replicate_succ, Array.replicate_zero, List.push_toArray, List.append_toArray, List.nil_append, List.cons_append]
 gi_wp2
 obtain ⟨W0, hW0⟩ : ∃ W0, w.alloc (.cells #[.pointer (some ⟨g, 0, none⟩)] 65) = W0 := ⟨_, rfl⟩
 have hb0 : Boxed W0 w.heap.size 65 (.pointer (some ⟨g, 0, none⟩)) := by rw [← hW0]; exact Boxed.new _ _ _
 have hG0 : Grow w W0 := by rw [← hW0]; exact Grow.alloc _ _
 have hWr0 := hW.grow hG0
 have hF0 : Foot w g v W0 v := Foot.grow hG0
 have hbf : ¬ FootS g v w.heap.size := hW.old (Nat.le_refl _)
 have hI0 : ∀ w3, Keep (FootS g v) W0 w3 → IntsAt w3 w.heap.size A n L := fun w3 hk => (Keep.grow hG0 |>.trans' hk).reads hR (Nat.le_refl _) HA.out
 rw [hW0]
 clear hW0
 cases bad with
 | true =>
  refine wpIn_wide.2 (wp_region_stages (by kernel_rfl) ?_)
  refine anyOrder_start [12] (Keep (FootS g v)) (markW 67 B g v l true true W0) (FactsOn [.is (.pointer (some ⟨g, 0, none⟩)), .is (.pointer (some ⟨g, 0, none⟩)), .is (.pointer (some ⟨g, 0, none⟩)), .is (.pointer (some ⟨g, 1, none⟩)), .is (.bool true), .is (.bool true), .is (undef), .is (undef), .is (undef), .is (.bool true), .is (.pointer (some ⟨g, 0, none⟩)), .is (.pointer (some ⟨g, 1, none⟩)), .any]) (fun i => if i = 4 then 0 else 99) keep_trans keep_grow (markW.grow) (factsOn_mono _) (by kernel_rfl) (by kernel_rfl) ⟨hWr0, Foot.refl _ _ _⟩ ?_ ?_
  ·refine ⟨?_, ?_, ?_, ?_, ?_, ?_, ?_, ?_, ?_, ?_, ?_, ?_, ?_, trivial⟩
   ·refine sF rfl rfl ?_
    intro us vals w3 a' ha hle hW hd hv K hK
    have q2 : a'.tmps[2]? = some (.pointer (some ⟨w.heap.size, 0, none⟩)) := by rw [ha.out]; kernel_rfl
    have hc := (hle.blk hb0 hbf).cell 0
    exact sV (v := .pointer (some ⟨g, 0, none⟩)) hK rfl
   ·refine sF rfl rfl ?_
    intro us vals w3 a' ha hle hW hd hv K hK
    have q2 : a'.tmps[2]? = some (.pointer (some ⟨w.heap.size, 0, none⟩)) := by rw [ha.out]; kernel_rfl
    have hc := (hle.blk hb0 hbf).cell 0
    exact sV (v := .pointer (some ⟨g, 0, none⟩)) hK rfl
   ·refine sF rfl rfl ?_
    intro us vals w3 a' ha hle hW hd hv K hK
    obtain ⟨d1, _⟩ := hd
    have q10 : a'.tmps[10]? = some (us 1) := by rw [ha.out]; kernel_rfl
    rw [show us 1 = .pointer (some ⟨g, 0, none⟩) from d1] at q10
    exact sV (v := .pointer (some ⟨g, 0, none⟩)) hK rfl
   ·refine sF rfl rfl ?_
    intro us vals w3 a' ha hle hW hd hv K hK
    obtain ⟨d2, _⟩ := hd
    have q11 : a'.tmps[11]? = some (us 2) := by rw [ha.out]; kernel_rfl
    rw [show us 2 = .pointer (some ⟨g, 0, none⟩) from d2] at q11
    exact sV (v := .pointer (some ⟨g, 1, none⟩)) hK rfl
   ·refine sF rfl rfl ?_
    intro us vals w3 a' ha hle hW hd hv K hK
    obtain ⟨d3, _⟩ := hd
    obtain rfl := List.eq_nil_of_length_eq_zero (Nat.le_zero.1 (show vals.length ≤ 0 from hv))
    have q12 : a'.tmps[12]? = some (us 3) := by rw [ha.out]; kernel_rfl
    rw [show us 3 = .pointer (some ⟨g, 1, none⟩) from d3] at q12
    have hc := hW.1.cell.cell 1
    exact sV (v := .bool true) hK rfl
   ·refine sF rfl rfl ?_
    intro us vals w3 a' ha hle hW hd hv K hK
    obtain ⟨d4, _⟩ := hd
    have q13 : a'.tmps[13]? = some (us 4) := by rw [ha.out]; kernel_rfl
    rw [show us 4 = .bool true from d4] at q13
    exact sV hK rfl
   ·refine stageOf_skip rfl (fun us vals w3 a' ha hd => ?_) (fun _ => rfl)
    obtain ⟨d5, _⟩ := hd
    have q : a'.tmps[14]? = some (us 5) := by rw [ha.out]; kernel_rfl
    rw [show us 5 = .bool true from d5] at q
    exact wanted_other rfl rfl q
   ·refine stageOf_skip rfl (fun us vals w3 a' ha hd => ?_) (fun _ => rfl)
    obtain ⟨_, d5, _, _⟩ := hd
    have q : a'.tmps[14]? = some (us 5) := by rw [ha.out]; kernel_rfl
    rw [show us 5 = .bool true from d5] at q
    exact wanted_other rfl rfl q
   ·refine stageOf_skip rfl (fun us vals w3 a' ha hd => ?_) (fun _ => rfl)
    obtain ⟨_, d5, _⟩ := hd
    have q : a'.tmps[14]? = some (us 5) := by rw [ha.out]; kernel_rfl
    rw [show us 5 = .bool true from d5] at q
    exact wanted_other rfl rfl q
   ·refine sF rfl rfl ?_
    intro us vals w3 a' ha hle hW hd hv K hK
    obtain ⟨d5, d8, _⟩ := hd
    have q14 : a'.tmps[14]? = some (us 5) := by rw [ha.out]; kernel_rfl
    rw [show us 5 = .bool true from d5] at q14
    have q17 : a'.tmps[17]? = some (us 8) := by rw [ha.out]; kernel_rfl
    rw [show us 8 = undef from d8] at q17
    exact sV (v := .bool true) hK rfl
   ·refine sF rfl rfl ?_
    intro us vals w3 a' ha hle hW hd hv K hK
    obtain ⟨d0, _, _, _, _, _, _, _, _, _, _, _⟩ := hd
    have q9 : a'.tmps[9]? = some (us 0) := by rw [ha.out]; kernel_rfl
    rw [show us 0 = .pointer (some ⟨g, 0, none⟩) from d0] at q9
    exact sV (v := .pointer (some ⟨g, 0, none⟩)) hK rfl
   ·refine sF rfl rfl ?_
    intro us vals w3 a' ha hle hW hd hv K hK
    obtain ⟨d10, _, _, _, _, _, _, _, _, _, _, _⟩ := hd
    have q19 : a'.tmps[19]? = some (us 10) := by rw [ha.out]; kernel_rfl
    rw [show us 10 = .pointer (some ⟨g, 0, none⟩) from d10] at q19
    exact sV (v := .pointer (some ⟨g, 1, none⟩)) hK rfl
   ·refine stageOf_mem (t := 0) rfl ?_
    intro us vals w3 a' ha hle hW hd hv
    obtain ⟨d11, d9, _, _, _, _, _, _, _, _, _, _, _, _⟩ := hd
    obtain rfl := List.eq_nil_of_length_eq_zero (Nat.le_zero.1 (show vals.length ≤ 0 from Nat.le_of_eq hv))
    refine ⟨wanted_none rfl, fun K hK => ?_⟩
    have q20 : a'.tmps[20]? = some (us 11) := by rw [ha.out]; kernel_rfl
    rw [show us 11 = .pointer (some ⟨g, 1, none⟩) from d11] at q20
    have q18 : a'.tmps[18]? = some (us 9) := by rw [ha.out]; kernel_rfl
    rw [show us 9 = .bool true from d9] at q18
    have h2 := hW.store hT undef
    have hf := hW.1.cell.frozen 1
    have hc := hW.1.cell.cell 1
    refine step_skip (w2 := w3.setCell ⟨g, 1, none⟩ (.bool true)) ?_ (hK _ _ h2.1 h2.2)
    go_simp
  ·intro us vals w3 hle hvl hV _ _
   generalize ha2 : fills _ _ _ _ = a2
   obtain rfl : a2 = { tmps := #[.pointer (some ⟨g, 0, none⟩), .slice A n c, .pointer (some ⟨w.heap.size, 0, none⟩), undef, undef, undef, undef, .pointer (some ⟨g, 0, none⟩), .bool false, us 0, us 1, us 2, us 3, us 4, us 5, us 6, us 7, us 8, us 9, us 10, us 11, undef, undef, undef, undef, undef, undef, undef, undef, undef, undef, undef, undef, undef, undef, undef, undef, undef, undef, undef, undef, undef, undef, undef, undef], defers := [] } := by rw [← ha2]; kernel_rfl
   clear ha2
   obtain ⟨x1, rfl⟩ := List.length_eq_one_iff.1 hvl
   obtain ⟨hW1, hF1⟩ := hV
   have hb1 := hle.blk hb0 hbf
   have hc1 := hb1.cell 0
   have hc2 := hW1.cell.cell 1
   gi_wp2
   exact ⟨_, results_none rfl _ _ _, rfl, v, by rw [Hnews.out, Hnb.out]; simpa using hW1, hF0.trans hF1⟩
 | false =>
  refine wpIn_wide.2 (wp_region_stages (by kernel_rfl) ?_)
  refine anyOrder_start [12] (Keep (FootS g v)) (markW 67 B g v l false (!fitsB L) W0) (FactsOn [.is (.pointer (some ⟨g, 0, none⟩)), .is (.pointer (some ⟨g, 0, none⟩)), .is (.pointer (some ⟨g, 0, none⟩)), .is (.pointer (some ⟨g, 1, none⟩)), .is (.bool false), .is (.bool false), .is (.slice A n c), .is (.bool (fitsB L)), .is (.bool (!fitsB L)), .is (.bool (!fitsB L)), .is (.pointer (some ⟨g, 0, none⟩)), .is (.pointer (some ⟨g, 1, none⟩)), .any]) (fun i => if i = 4 then 0 else 99) keep_trans keep_grow (markW.grow) (factsOn_mono _) (by kernel_rfl) (by kernel_rfl) ⟨hWr0, Foot.refl _ _ _⟩ ?_ ?_
  ·refine ⟨?_, ?_, ?_, ?_, ?_, ?_, ?_, ?_, ?_, ?_, ?_, ?_, ?_, trivial⟩
   ·refine sF rfl rfl ?_
    intro us vals w3 a' ha hle hW hd hv K hK
    have q2 : a'.tmps[2]? = some (.pointer (some ⟨w.heap.size, 0, none⟩)) := by rw [ha.out]; kernel_rfl
    have hc := (hle.blk hb0 hbf).cell 0
    exact sV (v := .pointer (some ⟨g, 0, none⟩)) hK rfl
   ·refine sF rfl rfl ?_
    intro us vals w3 a' ha hle hW hd hv K hK
    have q2 : a'.tmps[2]? = some (.pointer (some ⟨w.heap.size, 0, none⟩)) := by rw [ha.out]; kernel_rfl
    have hc := (hle.blk hb0 hbf).cell 0
    exact sV (v := .pointer (some ⟨g, 0, none⟩)) hK rfl
   ·refine sF rfl rfl ?_
    intro us vals w3 a' ha hle hW hd hv K hK
    obtain ⟨d1, _⟩ := hd
    have q10 : a'.tmps[10]? = some (us 1) := by rw [ha.out]; kernel_rfl
    rw [show us 1 = .pointer (some ⟨g, 0, none⟩) from d1] at q10
    exact sV (v := .pointer (some ⟨g, 0, none⟩)) hK rfl
   ·refine sF rfl rfl ?_
    intro us vals w3 a' ha hle hW hd hv K hK
    obtain ⟨d2, _⟩ := hd
    have q11 : a'.tmps[11]? = some (us 2) := by rw [ha.out]; kernel_rfl
    rw [show us 2 = .pointer (some ⟨g, 0, none⟩) from d2] at q11
    exact sV (v := .pointer (some ⟨g, 1, none⟩)) hK rfl
   ·refine sF rfl rfl ?_
    intro us vals w3 a' ha hle hW hd hv K hK
    obtain ⟨d3, _⟩ := hd
    obtain rfl := List.eq_nil_of_length_eq_zero (Nat.le_zero.1 (show vals.length ≤ 0 from hv))
    have q12 : a'.tmps[12]? = some (us 3) := by rw [ha.out]; kernel_rfl
    rw [show us 3 = .pointer (some ⟨g, 1, none⟩) from d3] at q12
    have hc := hW.1.cell.cell 1
    exact sV (v := .bool false) hK rfl
   ·refine sF rfl rfl ?_
    intro us vals w3 a' ha hle hW hd hv K hK
    obtain ⟨d4, _⟩ := hd
    have q13 : a'.tmps[13]? = some (us 4) := by rw [ha.out]; kernel_rfl
    rw [show us 4 = .bool false from d4] at q13
    exact sV hK rfl
   ·refine stageOf_free rfl (fun us vals w3 a' ha hd => ?_) ?_
    ·obtain ⟨d5, _⟩ := hd
     have q : a'.tmps[14]? = some (us 5) := by rw [ha.out]; kernel_rfl
     rw [show us 5 = .bool false from d5] at q
     exact wanted_some rfl rfl q
    intro us vals w3 a' ha hle hW hd hv K hK
    have q1 : a'.tmps[1]? = some (.slice A n c) := by rw [ha.out]; kernel_rfl
    exact sV hK rfl
   ·refine stageOf_free rfl (fun us vals w3 a' ha hd => ?_) ?_
    ·obtain ⟨_, d5, _, _⟩ := hd
     have q : a'.tmps[14]? = some (us 5) := by rw [ha.out]; kernel_rfl
     rw [show us 5 = .bool false from d5] at q
     exact wanted_some rfl rfl q
    intro us vals w3 a' ha hle hW hd hv K hK
    obtain ⟨d6, _, _, _⟩ := hd
    have q15 : a'.tmps[15]? = some (us 6) := by rw [ha.out]; kernel_rfl
    rw [show us 6 = .slice A n c from d6] at q15
    refine step_call (f := 61) (args := #[.slice A n c]) (by go_simp) ?_
    refine (fits_any w3 _ A n c L (hI0 w3 hle) hn).mono ?_
    rintro e w4 ⟨rfl, rfl⟩
    exact ⟨_, rfl, hK _ _ (Grow.refl _) rfl⟩
   ·refine stageOf_free rfl (fun us vals w3 a' ha hd => ?_) ?_
    ·obtain ⟨_, d5, _⟩ := hd
     have q : a'.tmps[14]? = some (us 5) := by rw [ha.out]; kernel_rfl
     rw [show us 5 = .bool false from d5] at q
     exact wanted_some rfl rfl q
    intro us vals w3 a' ha hle hW hd hv K hK
    obtain ⟨d7, _, _⟩ := hd
    have q16 : a'.tmps[16]? = some (us 7) := by rw [ha.out]; kernel_rfl
    rw [show us 7 = .bool (fitsB L) from d7] at q16
    exact sV (v := .bool (!fitsB L)) hK rfl
   ·refine sF rfl rfl ?_
    intro us vals w3 a' ha hle hW hd hv K hK
    obtain ⟨d5, d8, _⟩ := hd
    have q14 : a'.tmps[14]? = some (us 5) := by rw [ha.out]; kernel_rfl
    rw [show us 5 = .bool false from d5] at q14
    have q17 : a'.tmps[17]? = some (us 8) := by rw [ha.out]; kernel_rfl
    rw [show us 8 = .bool (!fitsB L) from d8] at q17
    exact sV (v := .bool (!fitsB L)) hK rfl
   ·refine sF rfl rfl ?_
    intro us vals w3 a' ha hle hW hd hv K hK
    obtain ⟨d0, _, _, _, _, _, _, _, _, _, _, _⟩ := hd
    have q9 : a'.tmps[9]? = some (us 0) := by rw [ha.out]; kernel_rfl
    rw [show us 0 = .pointer (some ⟨g, 0, none⟩) from d0] at q9
    exact sV (v := .pointer (some ⟨g, 0, none⟩)) hK rfl
   ·refine sF rfl rfl ?_
    intro us vals w3 a' ha hle hW hd hv K hK
    obtain ⟨d10, _, _, _, _, _, _, _, _, _, _, _⟩ := hd
    have q19 : a'.tmps[19]? = some (us 10) := by rw [ha.out]; kernel_rfl
    rw [show us 10 = .pointer (some ⟨g, 0, none⟩) from d10] at q19
    exact sV (v := .pointer (some ⟨g, 1, none⟩)) hK rfl
   ·refine stageOf_mem (t := 0) rfl ?_
    intro us vals w3 a' ha hle hW hd hv
    obtain ⟨d11, d9, _, _, _, _, _, _, _, _, _, _, _, _⟩ := hd
    obtain rfl := List.eq_nil_of_length_eq_zero (Nat.le_zero.1 (show vals.length ≤ 0 from Nat.le_of_eq hv))
    refine ⟨wanted_none rfl, fun K hK => ?_⟩
    have q20 : a'.tmps[20]? = some (us 11) := by rw [ha.out]; kernel_rfl
    rw [show us 11 = .pointer (some ⟨g, 1, none⟩) from d11] at q20
    have q18 : a'.tmps[18]? = some (us 9) := by rw [ha.out]; kernel_rfl
    rw [show us 9 = .bool (!fitsB L) from d9] at q18
    have h2 := hW.store hT undef
    have hf := hW.1.cell.frozen 1
    have hc := hW.1.cell.cell 1
    refine step_skip (w2 := w3.setCell ⟨g, 1, none⟩ (.bool (!fitsB L))) ?_ (hK _ _ h2.1 h2.2)
    go_simp
  ·intro us vals w3 hle hvl hV _ _
   generalize ha2 : fills _ _ _ _ = a2
   obtain rfl : a2 = { tmps := #[.pointer (some ⟨g, 0, none⟩), .slice A n c, .pointer (some ⟨w.heap.size, 0, none⟩), undef, undef, undef, undef, .pointer (some ⟨g, 0, none⟩), .bool false, us 0, us 1, us 2, us 3, us 4, us 5, us 6, us 7, us 8, us 9, us 10, us 11, undef, undef, undef, undef, undef, undef, undef, undef, undef, undef, undef, undef, undef, undef, undef, undef, undef, undef, undef, undef, undef, undef, undef, undef], defers := [] } := by rw [← ha2]; kernel_rfl
   clear ha2
   obtain ⟨x1, rfl⟩ := List.length_eq_one_iff.1 hvl
   obtain ⟨hW1, hF1⟩ := hV
   have hb1 := hle.blk hb0 hbf
   have hc1 := hb1.cell 0
   have hc2 := hW1.cell.cell 1
   cases hfit : fitsB L with
   | false =>
    rw [hfit] at hc2 hW1
    simp only [Bool.not_false] at hc2 hW1
    have Hfit := Lib.hid hfit
    clear hfit
    gi_wp2
    exact ⟨_, results_none rfl _ _ _, rfl, v, by rw [Hnews.out, Hnb.out, Hfit.out]; simpa using hW1, hF0.trans hF1⟩
   | true =>
    rw [hfit] at hc2 hW1
    simp only [Bool.not_true] at hc2 hW1
    have hle2 := Lib.hid (fits_le hfit)
    have hlen := hR.len
    obtain rfl : nb = false := by rw [Hnb.out, hfit]; rfl
    obtain rfl : news = encAll L := by rw [Hnews.out]; rfl
    clear hfit Hnb Hnews
    gi_wp2
    have hgw : g < w.heap.size := hW.cell.lt
    have hO0 : NumOut w B g v l [] w3 := ⟨hb1, ⟨v, by simpa using hW1, hF0.trans hF1⟩, Marks.nil _ _⟩
    have hI : ∀ w3, Keep (FootS g v) w w3 → IntsAt w3 w.heap.size A n L := fun w3 hk => hk.reads hR (Nat.le_refl _) HA.out
    clear hI0 hle hW1 hF1 hb1 hc1 hc2 hb0 hG0 hWr0 hF0 hbf hvl
    refine wpIn_loop (fun a' wr => ∃ (k : Nat) (ms : List Nat) (a3 a4 a5 a6 a7 a8 a9 a10 a11 a12 a13 a14 a15 a16 a17 a18 a19 a20 a21 a22 a23 a24 a28 a29 a30 a31 a32 a33 a34 a35 a36 a37 a38 a39 a40 a41 a42 a43 a44 : Value), k ≤ n ∧ a' = { tmps := #[.pointer (some ⟨g, 0, none⟩), .slice A n c, .pointer (some ⟨w.heap.size, 0, none⟩), a3, a4, a5, a6, a7, a8, a9, a10, a11, a12, a13, a14, a15, a16, a17, a18, a19, a20, a21, a22, a23, a24, .slice A n c, .int .i64 (n : Int), .int .i64 (k : Int), a28, a29, a30, a31, a32, a33, a34, a35, a36, a37, a38, a39, a40, a41, a42, a43, a44], defers := ms.map markOf } ∧ NumOut w B g v (l ++ encAll (L.take k)) ms wr)
     (fun a' _ => n - (intOf (a'.tmps.getD 27 undef)).toNat) ?start ?round
    case start => exact ⟨0, [], _, _, _, _, _, _, _, _, _, _, _, _, _, _, _, _, _, _, _, _, _, _, _, _, _, _, _, _, _, _, _, _, _, _, _, _, _, _, _, by omega, rfl, by simpa [encAll] using hO0⟩
    case round =>
     rintro a' wr ⟨k, ms, a3, a4, a5, a6, a7, a8, a9, a10, a11, a12, a13, a14, a15, a16, a17, a18, a19, a20, a21, a22, a23, a24, a28, a29, a30, a31, a32, a33, a34, a35, a36, a37, a38, a39, a40, a41, a42, a43, a44, hk, rfl, hO⟩
     clear hO0
     obtain ⟨v1, hw1, hf1⟩ := hO.wr
     have hRr := hI wr hf1.keep
     have hbx1 := hO.box
     have hcb := hbx1.cell 0
     have hlw := hbx1.lt
     by_cases hkl : k < n
     ·obtain ⟨b, off, rfl, hb, hcl⟩ := hRr.at_ (by omega)
      obtain ⟨x, hx⟩ : ∃ x, L[k]? = some x := ⟨_, List.getElem?_eq_getElem (by rw [hlen]; exact hkl)⟩
      have hcx := hcl k x hx
      have hxm := hle2.out x (List.mem_of_getElem? hx)
      have Hx := Lib.hid hx
      clear hcl hx
      gi_wp2_with (refine ⟨trivial, ?_⟩; gi_at_call 62; refine (callsIn_wide.2 (septets_any x _)).mono ?_; rintro e w' ⟨rfl, rfl⟩)
      obtain ⟨W0, hW0⟩ : ∃ W0, wr.alloc (.cells #[.int .i64 x] 3) = W0 := ⟨_, rfl⟩
      have hs0 : Boxed W0 wr.heap.size 3 (.int .i64 x) := by rw [← hW0]; exact Boxed.new _ _ _
      have hz0 : wr.heap.size < W0.heap.size := by rw [← hW0]; simp
      have hG0 : Grow wr W0 := by rw [← hW0]; exact Grow.alloc _ _
      rw [hW0]
      clear hW0
      obtain ⟨m, rfl⟩ := Int.eq_ofNat_of_zero_le hxm.1
      have hm6 := enc_len6 m (by omega)
      have hl6 := encAll_len (L.take k) fun y hy => hle2.out y (List.mem_of_mem_take hy)
      rw [List.length_take] at hl6
      obtain ⟨l1, hl1⟩ : ∃ l1, l1 = l ++ encAll (L.take k) := ⟨_, rfl⟩
      have hll : l1.length + 6 ≤ 140737488355328 := by rw [hl1, List.length_append]; omega
      rw [← hl1] at hO
      have Hl1 := Lib.hid hl1
      clear hl1 hl6 hw1 hf1 hbx1 hcb
      have hmsl : ∀ q ∈ ms, q < wr.heap.size := fun q hq => hO.marks.lt hq
      have hO1 : NumOut w B g v l1 ms W0 := hO.moved hgw (Keep.grow (S := fun _ => False) hG0) (fun _ h => h.elim) (fun _ h => h.elim)
      refine rangeJ rfl (by omega) (gf := 112) (lb := #[.pointer (some ⟨wr.heap.size, 0, none⟩)]) rfl trivial (enters_of Tryz.func112 (by kernel_rfl) rfl) ?_
      intro fn rec W1 _ hrec hg1 hz1 hD1 hlp1
      have hO2 : NumOut w B g v l1 ms W1 := hO1.moved hgw (Keep.grown hg1) (fun _ h => by cases h) (fun _ h => by cases h)
      have hs1 : Boxed W1 wr.heap.size 3 (.int .i64 (m : Int)) := hs0.kept hg1 (by simp)
      refine (septets1_any Fence.wide 3 trivial rfl (by omega) (W0.heap.size + 1) wr.heap.size m (by omega) (fun j W => NumIn w B g v wr.heap.size W0.heap.size (W0.heap.size + 1) rec ms (l1 ++ (enc m).take j) W)
       ?stab ?yield W1 hs1 ⟨hlp1, hD1, ⟨_, hs1⟩, by simpa using hO2⟩).mono ?_
      case stab =>
       rintro j W u ⟨h1, h2, ⟨u0, h3⟩, h4⟩
       have hk := Keep.setCell W ⟨wr.heap.size, 0, none⟩ u
       exact ⟨hk.obj h1 (by simp; omega), hk.obj h2 (by simp; omega), ⟨_, h3.set u⟩, h4.moved hgw hk (by rintro q rfl; exact ⟨hlw, fun hq => Nat.lt_irrefl _ (hmsl _ hq)⟩) (by rintro q rfl; exact Or.inl ⟨u0, h3⟩)⟩
      case yield =>
       rintro j x W2 u hx2 ⟨h1, h2, ⟨u0, h3⟩, h4⟩ hbox
       have Hx2 := Lib.hid hx2
       clear hx2
       refine yieldJ trivial hrec h1 rfl ?_
       gi_wp2
       refine roundBody.mk h1 fun w2 hg2 hl2 => ?_
       have h42 : NumOut w B g v (l1 ++ (enc m).take j) ms w2 := h4.moved hgw (Keep.grown hg2) (fun q hq => by injection hq with hq; exact ⟨by omega, fun hm => by have := hmsl _ hm; omega⟩) (fun q hq => by injection hq with hq; subst hq; exact Or.inr ⟨_, h1, by simp⟩)
       obtain ⟨v2, hw2, hf2⟩ := h42.wr
       have hb0 := h42.box
       have hbf : ¬ FootS g v2 w.heap.size := hw2.other hb0 (by decide) (by omega)
       have hD2 : w2.heap[W0.heap.size]? = some (.deferred (some [])) := (hg2.block _ (Array.getElem?_eq_some_iff.1 h2).1 (by simp)).trans h2
       have hb2 : Boxed w2 wr.heap.size 3 u := hbox.kept hg2 (by simp; omega)
       obtain ⟨l2, hl2'⟩ : ∃ l2, l2 = l1 ++ (enc m).take j := ⟨_, rfl⟩
       have hll2 : l2.length + 1 ≤ 140737488355328 := by
        rw [hl2', List.length_append, List.length_take]
        have := (List.getElem?_eq_some_iff.1 Hx2.out).1
        omega
       rw [← hl2'] at hw2 h42
       have Hl2 := Lib.hid hl2'
       clear hl2'
       gi_wp2
       refine wpIn_region_stages (by kernel_rfl) (by kernel_rfl) ?_
       refine anyOrder_start [7, 10] (Keep (FootS g v2)) (appW 67 B g v2 l2 false w2 [x]) (FactsOn [.is (.pointer (some ⟨g, 0, none⟩)), .is (.pointer (some ⟨g, 0, none⟩)), .is (.pointer (some ⟨g, 0, none⟩)), .is (.pointer (some ⟨g, 0, none⟩)), .is (v2), .is (.int .u8 (x.toNat : Int)), .new1 w2.heap.size (Wr.lt hw2) 5 (.int .u8 (x.toNat : Int)), .any, .is (.pointer (some ⟨g, 0, none⟩)), .is (.pointer (some ⟨g, 0, none⟩)), .any]) (fun i => if i = 4 then 0 else 99) keep_trans keep_grow (appW.grow) (factsOn_mono _) (by kernel_rfl) (by kernel_rfl) ⟨hw2, Foot.refl _ _ _⟩ ?_ ?_
       ·refine ⟨?_, ?_, ?_, ?_, ?_, ?_, ?_, ?_, ?_, ?_, ?_, trivial⟩
        ·refine sF rfl rfl ?_
         intro us vals w3 a' ha hle hW hd hv K hK
         have q2 : a'.tmps[2]? = some (.pointer (some ⟨w.heap.size, 0, none⟩)) := by rw [ha.out]; kernel_rfl
         have hc := (hle.blk hb0 hbf).cell 0
         exact sV (v := .pointer (some ⟨g, 0, none⟩)) hK rfl
        ·refine sF rfl rfl ?_
         intro us vals w3 a' ha hle hW hd hv K hK
         have q2 : a'.tmps[2]? = some (.pointer (some ⟨w.heap.size, 0, none⟩)) := by rw [ha.out]; kernel_rfl
         have hc := (hle.blk hb0 hbf).cell 0
         exact sV (v := .pointer (some ⟨g, 0, none⟩)) hK rfl
        ·refine sF rfl rfl ?_
         intro us vals w3 a' ha hle hW hd hv K hK
         obtain ⟨d1, _⟩ := hd
         have q35 : a'.tmps[35]? = some (us 1) := by rw [ha.out]; kernel_rfl
         rw [show us 1 = .pointer (some ⟨g, 0, none⟩) from d1] at q35
         exact sV (v := .pointer (some ⟨g, 0, none⟩)) hK rfl
        ·refine sF rfl rfl ?_
         intro us vals w3 a' ha hle hW hd hv K hK
         obtain ⟨d2, _⟩ := hd
         have q36 : a'.tmps[36]? = some (us 2) := by rw [ha.out]; kernel_rfl
         rw [show us 2 = .pointer (some ⟨g, 0, none⟩) from d2] at q36
         exact sV (v := .pointer (some ⟨g, 0, none⟩)) hK rfl
        ·refine sF rfl rfl ?_
         intro us vals w3 a' ha hle hW hd hv K hK
         obtain ⟨d3, _⟩ := hd
         obtain rfl := List.eq_nil_of_length_eq_zero (Nat.le_zero.1 (show vals.length ≤ 0 from hv))
         have q37 : a'.tmps[37]? = some (us 3) := by rw [ha.out]; kernel_rfl
         rw [show us 3 = .pointer (some ⟨g, 0, none⟩) from d3] at q37
         have hc := (hW.1.cell).cell 0
         exact sV (v := v2) hK rfl
        ·refine sF rfl rfl ?_
         intro us vals w3 a' ha hle hW hd hv K hK
         have q6 : a'.tmps[6]? = some (.int .u8 (x.toNat : Int)) := by rw [ha.out]; kernel_rfl
         exact sV hK rfl
        ·refine sF rfl rfl ?_
         intro us vals w3 a' ha hle hW hd hv K hK
         obtain ⟨d5, _⟩ := hd
         have q39 : a'.tmps[39]? = some (us 5) := by rw [ha.out]; kernel_rfl
         rw [show us 5 = .int .u8 (x.toNat : Int) from d5] at q39
         refine step_value (v := .slice (some ⟨w3.heap.size, 0, none⟩) 1 1) (w2 := w3.alloc (.cells #[.int .u8 (x.toNat : Int)] 5)) (by go_simp) (hK _ _ (Grow.alloc _ _) ?_)
         exact ⟨_, rfl, hle.size, Blk.new _ _ _⟩
        ·refine stageOf_mem (t := 0) rfl ?_
         intro us vals w3 a' ha hle hW hd hv
         obtain ⟨d4, ⟨m6, u6, z6, b6⟩, _⟩ := hd
         obtain rfl := List.eq_nil_of_length_eq_zero (Nat.le_zero.1 (show vals.length ≤ 0 from Nat.le_of_eq hv))
         refine ⟨wanted_none rfl, fun K hK => ?_⟩
         have q38 : a'.tmps[38]? = some (us 4) := by rw [ha.out]; kernel_rfl
         rw [show us 4 = v2 from d4] at q38
         have q40 : a'.tmps[40]? = some (us 6) := by rw [ha.out]; kernel_rfl
         rw [u6] at q40
         have hB := Nat.le_trans hW.1.base (Nat.le_of_lt hW.1.cell.lt)
         refine wp_append_reads w3 (.tmp 38) (.tmp 40) rfl bytesTy (evalT q38) hW.1.own (evalT q40) b6.reads1 (by simp [Value.oneCell']) (by simp only [maxLen]; omega) (by omega) hB ?_
         intro v2 w4 ho hg hat
         have h2 := hW.app (news := [x]) hT ho hg hat
         exact hK _ _ h2.1 h2.2
        ·refine sF rfl rfl ?_
         intro us vals w3 a' ha hle hW hd hv K hK
         obtain ⟨d0, _, _, _, _, _, _, _, _, _⟩ := hd
         have q34 : a'.tmps[34]? = some (us 0) := by rw [ha.out]; kernel_rfl
         rw [show us 0 = .pointer (some ⟨g, 0, none⟩) from d0] at q34
         exact sV (v := .pointer (some ⟨g, 0, none⟩)) hK rfl
        ·refine sF rfl rfl ?_
         intro us vals w3 a' ha hle hW hd hv K hK
         obtain ⟨d8, _, _, _, _, _, _, _, _, _⟩ := hd
         have q42 : a'.tmps[42]? = some (us 8) := by rw [ha.out]; kernel_rfl
         rw [show us 8 = .pointer (some ⟨g, 0, none⟩) from d8] at q42
         exact sV (v := .pointer (some ⟨g, 0, none⟩)) hK rfl
        ·refine stageOf_mem (t := 1) rfl ?_
         intro us vals w3 a' ha hle hW hd hv
         obtain ⟨d9, d7, _, _, _, _, _, _, _, _, _, _⟩ := hd
         obtain ⟨x0, rfl⟩ := List.length_eq_one_iff.1 hv
         obtain rfl : us 7 = x0 := by have h0 : some x0 = some (us 7) := d7; injection h0 with h0; exact h0.symm
         refine ⟨wanted_none rfl, fun K hK => ?_⟩
         have q43 : a'.tmps[43]? = some (us 9) := by rw [ha.out]; kernel_rfl
         rw [show us 9 = .pointer (some ⟨g, 0, none⟩) from d9] at q43
         have q41 : a'.tmps[41]? = some (us 7) := by rw [ha.out]; kernel_rfl
         obtain ⟨A5, c5, e5, -⟩ := own_reads hW.own
         have h2 := hW.store undef
         have hf := hW.cell.frozen 0
         have hl := hW.cell.cell 0
         rw [e5] at q41
         refine step_skip (w2 := w3.setCell ⟨g, 0, none⟩ (us 7)) ?_ (hK _ _ h2.1 h2.2)
         rw [e5]
         go_simp
       ·intro us vals w3 hle hvl hV _ _
        obtain ⟨x1, x2, rfl⟩ : ∃ x1 x2, vals = [x1, x2] := by
         match vals, hvl with
         | [a, b], _ => exact ⟨a, b, rfl⟩
        obtain ⟨hw3, hf3⟩ := hV
        generalize fills _ _ _ _ = a2
        have h43 := h42.wrote hgw hw2 hf2 hw3 hf3
        have hl3 := hle.obj hl2 (hw2.otherObj hl2 (by simp))
        have hD3 := hle.obj hD2 (hw2.otherObj hD2 (by simp))
        have hb3 := hle.blk (show Blk w2 wr.heap.size 3 #[u] from hb2) (hw2.other (show Blk w2 wr.heap.size 3 #[u] from hb2) (by decide) (by omega))
        simp only [Exit.inBlock]
        refine roundEnd.on hl3 fun w' hg' hl' => ⟨rfl, ⟨hl', (hg'.block _ (Array.getElem?_eq_some_iff.1 hD3).1 (by simp)).trans hD3, ⟨u, hb3.boxed.kept hg' (by simp; omega)⟩, ?_⟩, hb3.boxed.kept hg' (by simp; omega)⟩
        have e : l1 ++ (enc m).take (j + 1) = l2 ++ [x] := by rw [List.take_add_one, Hx2.out, ← List.append_assoc, ← Hl2.out]; rfl
        rw [e]
        exact h43.moved hgw (Keep.grown hg') (fun q hq => by injection hq with hq; exact ⟨by omega, fun hm => by have := hmsl _ hm; omega⟩) (fun q hq => by injection hq with hq; subst hq; exact Or.inr ⟨_, hl3, by simp⟩)
      rintro e W2 ⟨⟨vv, rfl⟩, hJ⟩
      refine ⟨vv, .ready, none, rfl, by simp, hJ.loop, fun W3 hg3 => ?_⟩
      have hN0 := hJ.out.moved hgw (Keep.grown hg3) (fun q hq => by injection hq with hq; exact ⟨by omega, fun hm => by have := hmsl _ hm; omega⟩) (fun q hq => by injection hq with hq; subst hq; exact Or.inr ⟨_, hJ.loop, by simp⟩)
      have hN : NumOut w B g v (l ++ encAll (L.take (k + 1))) (W0.heap.size :: ms) W3 := by
       refine ⟨hN0.box, ?_, List.nodup_cons.2 ⟨fun hin => by have := hmsl _ hin; omega, hN0.marks.nodup⟩, fun q hq => ?_, fun q hq => ?_⟩
       ·rw [encAll_succ L k _ Hx.out, ← List.append_assoc, ← Hl1.out]
        simpa using hN0.wr
       ·rcases List.mem_cons.1 hq with rfl | hq
        ·omega
        ·exact hN0.marks.ge q hq
       ·rcases List.mem_cons.1 hq with rfl | hq
        ·exact (hg3.block _ (Array.getElem?_eq_some_iff.1 hJ.defers).1 (by simp)).trans hJ.defers
        ·exact hN0.marks.opened q hq
      gi_wp2
      exact ⟨⟨k + 1, W0.heap.size :: ms, _, _, _, _, _, _, _, _, _, _, _, _, _, _, _, _, _, _, _, _, _, _, _, _, _, _, _, _, _, _, _, _, _, _, _, _, _, _, _, by omega, rfl, hN⟩, by simp [intOf]; omega⟩
     ·obtain rfl : k = n := by omega
      gi_wp2
      refine leaves_marks (by simp) (B := w.heap.size + 1) ms _ hO.marks fun w' ho => ?_
      rw [List.take_of_length_le (by omega)] at hw1
      exact ⟨_, results_none rfl _ _ _, rfl, v1, hw1.moved (Keep.only ho) (fun q hf hm => hw1.otherObj (hO.marks.opened q hm) (by simp) hf), hf1.moved (Keep.only ho) (fun q hq => by have := hO.marks.ge q hq; omega)⟩
theorem WNumber_any (w : World) (B g : Nat) (v : Value) (l : List UInt8) (bad : Bool) (A : Option Addr) (n c : Nat) (L : List Int) (hW : Wr 67 w B g v l bad) (hR : IntsAt w w.heap.size A n L) (hA : ∀ ad, A = some ad → ¬ FootS g v ad.block) (hl : l.length + 6 * n ≤ 140737488355328) (hn : n ≤ maxLen) :
  Calls Tryz.prog 32 #[.pointer (some ⟨g, 0, none⟩), .slice A n c] w fun e w' => e = .returned (.tuple #[]) ∧ ∃ v', Wr 67 w' B g v' (l ++ if bad || !fitsB L then [] else encAll L) (bad || !fitsB L) ∧ Foot w g v w' v' :=
 WNumber_as w B g v l bad A n c L hW hR hA hl hn _ _ (Lib.hid rfl) (Lib.hid rfl)
end Go.Proofs.YtcimkoehcdfjdaaGreatDoor
