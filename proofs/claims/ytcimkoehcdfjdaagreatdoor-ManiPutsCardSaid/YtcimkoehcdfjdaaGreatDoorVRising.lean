/-
  The walk of the document's writer (layer 2): Rising.
-/
import Derived.Test.YtcimkoehcdfjdaaGreatDoorVWriter
import Derived.Deep.QuietTactic
import Derived.BigQuiet
import Derived.IntWalk
namespace Go.Proofs.YtcimkoehcdfjdaaGreatDoor
open Go.RowKit WireM

theorem PutsTo.of {Tt : TypeId} {w w1 w2 : World} {B g : Nat} {v v1 : Value} {st : St} {len len2 : Nat} (hf : Foot w g v w1 v1) (h : PutsTo Tt w1 B g v1 st len w2) (hl : len ≤ len2) : PutsTo Tt w B g v st len2 w2 := by
  obtain ⟨v', l', b', h1, h2, h3, h4⟩ := h
  exact ⟨v', l', b', h1, hf.trans h2, h3, Nat.le_trans h4 hl⟩
theorem Foot.drewN {w w1 : World} {g : Nat} {v v1 : Value} (h : Foot w g v w1 v1) (q : Nat) : Foot w g v (w1.drewN q) v1 := h.trans (Foot.grow (Grow.drewN w1 q))

/-- the chain of one call -/
def callW (Tt : TypeId) (B g : Nat) (v : Value) (l : List UInt8) (bad : Bool) (w0 : World) (st : St) (len : Nat) : List Value → World → Prop
  | [], w => Wr Tt w B g v l bad ∧ Foot w0 g v w v
  | [_], w => PutsTo Tt w0 B g v st len w
  | _, _ => False
theorem callW.grow {Tt : TypeId} {B g : Nat} {v : Value} {l : List UInt8} {bad : Bool} {w0 : World} {st : St} {len : Nat} : ∀ (vals : List Value) (w w2 : World), Grow w w2 → callW Tt B g v l bad w0 st len vals w → callW Tt B g v l bad w0 st len vals w2
  | [], _, _, hg, h => ⟨h.1.grow hg, h.2.trans (Foot.grow hg)⟩
  | [_], _, _, hg, ⟨v', l', b', h1, h2, h3, h4⟩ => ⟨v', l', b', h1.grow hg, h2.trans (Foot.grow hg), h3, h4⟩
  | _ :: _ :: _, _, _, _, h => h
theorem Foot.other {w w1 : World} {g : Nat} {v v1 : Value} (h : Foot w g v w1 v1) {b : Nat} (hb : b < w.heap.size) (hn : ¬ FootS g v b) : ¬ FootS g v1 b := by
  rintro (rfl | hk)
  · exact hn (Or.inl rfl)
  · rcases h.at_ with e | ⟨m, e, hm⟩
    · exact hn (Or.inr (by rw [← e]; exact hk))
    · rw [e] at hk
      injection hk with hk
      omega

/-- what holds at the head of the loop -/
structure VRiseInv (w : World) (B g : Nat) (v : Value) (l : List UInt8) (bad : Bool) (L : List Int) (k : Nat) (W : World) : Prop where
  wr : ∃ v1 l1 b1, Wr 55 W B g v1 l1 b1 ∧ Foot w g v W v1 ∧ putRising L (stOf l bad) = putRise (if k = 0 then 0 else L.getD (k - 1) 0 + 1) (L.drop k) (stOf l1 b1) ∧ l1.length ≤ l.length + 6 + 6 * k
  lo : 0 < k → 0 ≤ L.getD (k - 1) 0
theorem VRiseInv.bad {w W W' : World} {B g : Nat} {v : Value} {l : List UInt8} {bad : Bool} {L : List Int} {k n : Nat} (h : VRiseInv w B g v l bad L k W) (hT : 55 ≠ 5) {x : Int} (hd : L.drop k = x :: L.drop (k + 1)) (hk : k ≤ n) (hx : x < (if k = 0 then 0 else L.getD (k - 1) 0 + 1) ∨ x < 0 ∨ (maxNum : Int) < x) (q : Nat) (hW' : W' = (W.drewN q).setCell ⟨g, 1, none⟩ (.bool true)) :
    PutsTo 55 w B g v (putRising L (stOf l bad)) (l.length + 6 + 6 * n) W' := by
  obtain ⟨v1, l1, b1, h1, h2, h3, h4⟩ := h.wr
  have h5 := (h1.grow (Grow.drewN W q)).mark hT true
  subst hW'
  refine ⟨v1, l1, true, h5.1, (h2.drewN q).trans h5.2, ?_, by omega⟩
  rw [h3, hd, putRise, if_pos hx]
  rfl

set_option maxRecDepth 100000 in
set_option maxHeartbeats 4000000 in
theorem vRising_any (w : World) (B g : Nat) (v : Value) (l : List UInt8) (bad : Bool) (A : Option Addr) (n c : Nat) (L : List Int) (hW : Wr 55 w B g v l bad) (hR : IntsAt w w.heap.size A n L) (hA : 0 < n → ∀ ad, A = some ad → ¬ FootS g v ad.block) (hl : l.length + 6 + 6 * n ≤ 140737488355328) :
    Calls Tryz.prog 24 #[.pointer (some ⟨g, 0, none⟩), .slice A n c] w fun e w' => e = .returned (.tuple #[]) ∧ PutsTo 55 w B g v (putRising L (stOf l bad)) (l.length + 6 + 6 * n) w' := by
  have hT : 55 ≠ 5 := by decide
  have HA := Lib.hid hA
  have hlen := hR.len
  clear hA
  have hI : ∀ w3, Keep (FootS g v) w w3 → IntsAt w3 w.heap.size A n L := fun w3 hk => hk.reads' hR (Nat.le_refl _) HA.out
  obtain ⟨st, hst⟩ : ∃ st, st = putRising L (stOf l bad) := ⟨_, rfl⟩
  rw [← hst]
  have Hst := Lib.hid hst
  clear hst
  go_enter Tryz.func24, Tryz.ntmps24
  go_wp2_with fail
  refine (vNumber_any w B g v l bad (n : Int) hW (by omega)).mono ?_
  rintro e w2 ⟨rfl, v2, l2, b2, hW2, hF2, hs2, hl2⟩
  have hS0 : VRiseInv w B g v l bad L 0 w2 := ⟨⟨v2, l2, b2, hW2, hF2, by rw [hs2, putRising, hlen]; rfl, by omega⟩, fun h => absurd h (Nat.lt_irrefl 0)⟩
  clear hW2 hF2 hs2 hl2
  go_wp2_with fail
  go_loopw [4] (fun v4 wr => ∃ k : Nat, k ≤ n ∧ v4 = .int .i64 (k : Int) ∧ VRiseInv w B g v l bad L k wr) (fun v4 _ => n - (intOf v4).toNat)
  case atStart => exact ⟨0, by omega, rfl, hS0⟩
  case round =>
    clear hS0
    obtain ⟨k, hk, rfl, hInv⟩ := hrel
    obtain ⟨v1, l1, b1, hW1, hF1, hst, hl1⟩ := hInv.wr
    by_cases hlt : k < n
    · have hRr := hI wr hF1.keep
      have hgl := hW1.cell.lt
      have hf1 := hW1.cell.frozen 1
      have hc1 := hW1.cell.cell 1
      obtain ⟨b, off, rfl, hb, hcl⟩ := hRr.at_ (by omega)
      obtain ⟨x, hx⟩ : ∃ x, L[k]? = some x := ⟨_, List.getElem?_eq_getElem (by rw [hlen]; exact hlt)⟩
      have hcx := hcl k x hx
      have hd : L.drop k = x :: L.drop (k + 1) := by
        have hkl : k < L.length := by rw [hlen]; exact hlt
        rw [List.drop_eq_getElem_cons hkl]
        rw [List.getElem?_eq_getElem hkl] at hx
        injection hx with hx
        rw [hx]
      have Hd := Lib.hid hd
      have Hx := Lib.hid hx
      have Hcl := Lib.hid hcl
      have Hinv := Lib.hid hInv
      have Hs := Lib.hid hst
      clear hcl hx hd hInv hst
      have hk1 : (k : Int) < (n : Int) := by omega
      by_cases h1 : x < 0
      · have d1 : decide (x < 0) = true := decide_eq_true h1
        go_wp2
        go_quiet (fail)
        go_wp2
        (try simp only [Exit.inBlock, Exit.then])
        refine bodyPost_ret0 rfl rfl ?_
        refine ⟨rfl, ?_⟩
        rw [Hst.out]
        exact Hinv.out.bad hT Hd.out hk (Or.inr (Or.inl h1)) _ rfl
      · have d1 : decide (x < 0) = false := decide_eq_false h1
        by_cases h2 : 1099511627776 < x
        · have d2 : decide (1099511627776 < x) = true := decide_eq_true h2
          go_wp2
          go_quiet (fail)
          go_wp2
          (try simp only [Exit.inBlock, Exit.then])
          refine bodyPost_ret0 rfl rfl ?_
          refine ⟨rfl, ?_⟩
          rw [Hst.out]
          exact Hinv.out.bad hT Hd.out hk (Or.inr (Or.inr (by simp only [maxNum]; omega))) _ rfl
        · have d2 : decide (1099511627776 < x) = false := decide_eq_false h2
          rcases Nat.eq_zero_or_pos k with hk0 | hk0
          · subst hk0
            rw [Nat.add_zero] at hcx
            go_wp2
            go_quiet (fail)
            go_wp2_with fail
            refine (vNumber_any _ B g v1 l1 b1 x (hW1.grow (Grow.drewN _ _)) (by omega)).mono ?_
            rintro e w3 ⟨rfl, v3, l3, b3, hW3, hF3, hs3, hl3⟩
            have Hs3 := Lib.hid hs3
            clear hs3
            go_wp2
            go_roundw
            case rel =>
              refine ⟨0 + 1, by omega, by go_num, ⟨v3, l3, b3, hW3, (hF1.drewN _).trans hF3, ?_, by omega⟩, fun _ => by rw [Nat.zero_add, Nat.sub_self, List.getD_eq_getElem?_getD, Hx.out]; show 0 ≤ x; omega⟩
              rw [Hs.out, Hd.out, if_pos trivial, if_neg (by omega), putRise, if_neg (by simp only [maxNum]; omega), Hs3.out, Nat.add_sub_cancel, List.getD_eq_getElem?_getD, Hx.out, Int.sub_zero]
              rfl
            case measure => simp [intOf]; omega
          · obtain ⟨j, rfl⟩ : ∃ j, k = j + 1 := ⟨k - 1, by omega⟩
            obtain ⟨p, hp⟩ : ∃ p, L[j]? = some p := ⟨_, List.getElem?_eq_getElem (by rw [hlen]; omega)⟩
            have hcp := Hcl.out j p hp
            have Hp := Lib.hid (show L.getD (j + 1 - 1) 0 = p by rw [Nat.add_sub_cancel, List.getD_eq_getElem?_getD, hp]; rfl)
            have hp0 : 0 ≤ p := by rw [← Hp.out]; exact Hinv.out.lo hk0
            clear hp hk0
            have hj1 : (j : Int) < (n : Int) := by omega
            have d3 : decide ((0 : Int) < ((j + 1 : Nat) : Int)) = true := decide_eq_true (by omega)
            by_cases h3 : x ≤ p
            · have d4 : decide (x ≤ p) = true := decide_eq_true h3
              go_wp2
              go_quiet (fail)
              go_wp2
              (try simp only [Exit.inBlock, Exit.then])
              refine bodyPost_ret0 rfl rfl ?_
              refine ⟨rfl, ?_⟩
              rw [Hst.out]
              exact Hinv.out.bad hT Hd.out hk (Or.inl (by rw [if_neg (by omega), Hp.out]; omega)) _ rfl
            · have d4 : decide (x ≤ p) = false := decide_eq_false h3
              go_wp2
              go_quiet (fail)
              go_wp2_with fail
              obtain ⟨W0, hW0⟩ : ∃ W0, wr.drewN nq = W0 := ⟨_, rfl⟩
              have hWr0 : Wr 55 W0 B g v1 l1 b1 := by rw [← hW0]; exact hW1.grow (Grow.drewN _ _)
              have hF0 : Foot w g v W0 v1 := by rw [← hW0]; exact hF1.drewN _
              have hcx0 : W0.cell? ⟨b, off + (j + 1), none⟩ = some (.int .i64 x) := by rw [← hW0]; exact hcx
              have hcp0 : W0.cell? ⟨b, off + j, none⟩ = some (.int .i64 p) := by rw [← hW0]; exact hcp
              have hzb : b < W0.heap.size := Nat.lt_of_lt_of_le hb hF0.keep.size
              have hbf : ¬ FootS g v1 b := hF0.other hb (HA.out (by omega) _ rfl)
              rw [hW0]
              clear hW0
              obtain ⟨st2, hst2⟩ : ∃ s, s = putNum (x - p - 1) (stOf l1 b1) := ⟨_, rfl⟩
              have Hst2 := Lib.hid hst2
              clear hst2
              have hw7 : IntKind.i64.wrap (j : Int) = (j : Int) := IntWalk.i64_in _ (by omega)
              have hw10 : IntKind.i64.wrap (x - p) = x - p := IntWalk.i64_in _ (by omega)
              have hw11 : IntKind.i64.wrap (x - p - 1) = x - p - 1 := IntWalk.i64_in _ (by omega)
              rename_i KK hKK hz0
              refine wp_region_stages (by kernel_rfl) ?_
              refine anyOrder_start [12] (Keep (FootS g v1)) (callW 55 B g v1 l1 b1 W0 st2 (l1.length + 6)) (FactsOn [.is (.pointer (some ⟨g, 0, none⟩)), .is (.slice (some ⟨b, off, none⟩) n c), .is (.int .i64 ((j : Int) + 1)), .is (.pointer (some ⟨b, off + (j + 1), none⟩)), .is (.int .i64 x), .is (.slice (some ⟨b, off, none⟩) n c), .is (.int .i64 ((j : Int) + 1)), .is (.int .i64 (j : Int)), .is (.pointer (some ⟨b, off + j, none⟩)), .is (.int .i64 p), .is (.int .i64 (x - p)), .is (.int .i64 (x - p - 1)), .any]) (fun i => 99) keep_trans keep_grow (callW.grow) (factsOn_mono _) (by kernel_rfl) (by kernel_rfl) ⟨hWr0, Foot.refl _ _ _⟩ ?_ ?_
              · refine ⟨?_, ?_, ?_, ?_, ?_, ?_, ?_, ?_, ?_, ?_, ?_, ?_, ?_, trivial⟩
                · refine stageOf_free rfl (fun _ _ _ _ _ _ => wanted_none rfl) ?_
                  intro us vals w3 a' ha hle hW hd hv K hK
                  have q0 : a'.tmps[0]? = some (.pointer (some ⟨g, 0, none⟩)) := by rw [ha.out]; kernel_rfl
                  exact step_value (w2 := w3) (by go_simp) (hK _ _ (Grow.refl _) rfl)
                · refine stageOf_free rfl (fun _ _ _ _ _ _ => wanted_none rfl) ?_
                  intro us vals w3 a' ha hle hW hd hv K hK
                  have q1 : a'.tmps[1]? = some (.slice (some ⟨b, off, none⟩) n c) := by rw [ha.out]; kernel_rfl
                  exact step_value (w2 := w3) (by go_simp) (hK _ _ (Grow.refl _) rfl)
                · refine stageOf_free rfl (fun _ _ _ _ _ _ => wanted_none rfl) ?_
                  intro us vals w3 a' ha hle hW hd hv K hK
                  have q4 : a'.tmps[4]? = some (.int .i64 ((j : Int) + 1)) := by rw [ha.out]; kernel_rfl
                  exact step_value (w2 := w3) (by go_simp) (hK _ _ (Grow.refl _) rfl)
                · refine stageOf_free rfl (fun _ _ _ _ _ _ => wanted_none rfl) ?_
                  intro us vals w3 a' ha hle hW hd hv K hK
                  obtain ⟨d1, d2, _⟩ := hd
                  have q16 : a'.tmps[16]? = some (us 1) := by rw [ha.out]; kernel_rfl
                  rw [show us 1 = .slice (some ⟨b, off, none⟩) n c from d1] at q16
                  have q17 : a'.tmps[17]? = some (us 2) := by rw [ha.out]; kernel_rfl
                  rw [show us 2 = .int .i64 ((j : Int) + 1) from d2] at q17
                  refine step_value (v := .pointer (some ⟨b, off + (j + 1), none⟩)) (w2 := w3) ?_ (hK _ _ (Grow.refl _) rfl)
                  go_simp
                  intro h
                  omega
                · refine stageOf_free rfl (fun _ _ _ _ _ _ => wanted_none rfl) ?_
                  intro us vals w3 a' ha hle hW hd hv K hK
                  obtain ⟨d3, _⟩ := hd
                  have q18 : a'.tmps[18]? = some (us 3) := by rw [ha.out]; kernel_rfl
                  rw [show us 3 = .pointer (some ⟨b, off + (j + 1), none⟩) from d3] at q18
                  have hc : w3.cell? ⟨b, off + (j + 1), none⟩ = some (.int .i64 x) := (hle.cell (p := ⟨b, off + (j + 1), none⟩) hzb hbf).trans hcx0
                  refine step_value (v := .int .i64 x) (w2 := w3) ?_ (hK _ _ (Grow.refl _) rfl)
                  go_simp
                · refine stageOf_free rfl (fun _ _ _ _ _ _ => wanted_none rfl) ?_
                  intro us vals w3 a' ha hle hW hd hv K hK
                  have q1 : a'.tmps[1]? = some (.slice (some ⟨b, off, none⟩) n c) := by rw [ha.out]; kernel_rfl
                  exact step_value (w2 := w3) (by go_simp) (hK _ _ (Grow.refl _) rfl)
                · refine stageOf_free rfl (fun _ _ _ _ _ _ => wanted_none rfl) ?_
                  intro us vals w3 a' ha hle hW hd hv K hK
                  have q4 : a'.tmps[4]? = some (.int .i64 ((j : Int) + 1)) := by rw [ha.out]; kernel_rfl
                  exact step_value (w2 := w3) (by go_simp) (hK _ _ (Grow.refl _) rfl)
                · refine stageOf_free rfl (fun _ _ _ _ _ _ => wanted_none rfl) ?_
                  intro us vals w3 a' ha hle hW hd hv K hK
                  obtain ⟨d6, _⟩ := hd
                  have q21 : a'.tmps[21]? = some (us 6) := by rw [ha.out]; kernel_rfl
                  rw [show us 6 = .int .i64 ((j : Int) + 1) from d6] at q21
                  refine step_value (v := .int .i64 (j : Int)) (w2 := w3) ?_ (hK _ _ (Grow.refl _) rfl)
                  go_simp
                · refine stageOf_free rfl (fun _ _ _ _ _ _ => wanted_none rfl) ?_
                  intro us vals w3 a' ha hle hW hd hv K hK
                  obtain ⟨d5, d7, _⟩ := hd
                  have q20 : a'.tmps[20]? = some (us 5) := by rw [ha.out]; kernel_rfl
                  rw [show us 5 = .slice (some ⟨b, off, none⟩) n c from d5] at q20
                  have q22 : a'.tmps[22]? = some (us 7) := by rw [ha.out]; kernel_rfl
                  rw [show us 7 = .int .i64 (j : Int) from d7] at q22
                  refine step_value (v := .pointer (some ⟨b, off + j, none⟩)) (w2 := w3) ?_ (hK _ _ (Grow.refl _) rfl)
                  go_simp
                · refine stageOf_free rfl (fun _ _ _ _ _ _ => wanted_none rfl) ?_
                  intro us vals w3 a' ha hle hW hd hv K hK
                  obtain ⟨d8, _⟩ := hd
                  have q23 : a'.tmps[23]? = some (us 8) := by rw [ha.out]; kernel_rfl
                  rw [show us 8 = .pointer (some ⟨b, off + j, none⟩) from d8] at q23
                  have hc : w3.cell? ⟨b, off + j, none⟩ = some (.int .i64 p) := (hle.cell (p := ⟨b, off + j, none⟩) hzb hbf).trans hcp0
                  refine step_value (v := .int .i64 p) (w2 := w3) ?_ (hK _ _ (Grow.refl _) rfl)
                  go_simp
                · refine stageOf_free rfl (fun _ _ _ _ _ _ => wanted_none rfl) ?_
                  intro us vals w3 a' ha hle hW hd hv K hK
                  obtain ⟨d4, d9, _⟩ := hd
                  have q19 : a'.tmps[19]? = some (us 4) := by rw [ha.out]; kernel_rfl
                  rw [show us 4 = .int .i64 x from d4] at q19
                  have q24 : a'.tmps[24]? = some (us 9) := by rw [ha.out]; kernel_rfl
                  rw [show us 9 = .int .i64 p from d9] at q24
                  refine step_value (v := .int .i64 (x - p)) (w2 := w3) ?_ (hK _ _ (Grow.refl _) rfl)
                  go_simp
                · refine stageOf_free rfl (fun _ _ _ _ _ _ => wanted_none rfl) ?_
                  intro us vals w3 a' ha hle hW hd hv K hK
                  obtain ⟨d10, _⟩ := hd
                  have q25 : a'.tmps[25]? = some (us 10) := by rw [ha.out]; kernel_rfl
                  rw [show us 10 = .int .i64 (x - p) from d10] at q25
                  refine step_value (v := .int .i64 (x - p - 1)) (w2 := w3) ?_ (hK _ _ (Grow.refl _) rfl)
                  go_simp
                · refine stageOf_mem (t := 0) rfl ?_
                  intro us vals w3 a' ha hle hW hd hv
                  obtain ⟨d0, d11, _⟩ := hd
                  obtain rfl := List.eq_nil_of_length_eq_zero (Nat.le_zero.1 (show vals.length ≤ 0 from Nat.le_of_eq hv))
                  refine ⟨wanted_none rfl, fun K hK => ?_⟩
                  have q15 : a'.tmps[15]? = some (us 0) := by rw [ha.out]; kernel_rfl
                  rw [show us 0 = .pointer (some ⟨g, 0, none⟩) from d0] at q15
                  have q26 : a'.tmps[26]? = some (us 11) := by rw [ha.out]; kernel_rfl
                  rw [show us 11 = .int .i64 (x - p - 1) from d11] at q26
                  refine step_call (f := 22) (args := #[.pointer (some ⟨g, 0, none⟩), .int .i64 (x - p - 1)]) (by go_simp) ?_
                  refine (vNumber_any w3 B g v1 l1 b1 (x - p - 1) hW.1 (by omega)).mono ?_
                  rintro e w4 ⟨rfl, v3, l3, b3, h5, h6, h7, h8⟩
                  exact ⟨_, rfl, hK _ _ h6.keep ⟨v3, l3, b3, h5, hW.2.trans h6, h7.trans Hst2.out.symm, h8⟩⟩
              · intro us vals w3 hle hvl hV _ _
                obtain ⟨x1, rfl⟩ := List.length_eq_one_iff.1 hvl
                obtain ⟨v3, l3, b3, hW3, hF3, hs3, hl3⟩ := hV
                have Hs3 := Lib.hid hs3
                clear hs3
                simp only [Exit.inBlock, Exit.then]
                simp only [fills, Act.put, List.setIfInBounds_toArray, List.set_cons_succ, List.set_cons_zero, Nat.zero_add, Nat.reduceAdd]
                refine hKK _ _ ?_
                go_wp2
                go_roundw
                case rel =>
                  refine ⟨j + 1 + 1, by omega, by go_num, ⟨v3, l3, b3, hW3, hF0.trans hF3, ?_, by omega⟩, fun _ => by rw [Nat.add_sub_cancel, List.getD_eq_getElem?_getD, Hx.out]; show 0 ≤ x; omega⟩
                  rw [Hs.out, Hd.out, if_neg (by omega), if_neg (by omega), Hp.out, putRise, if_neg (by simp only [maxNum]; omega), Hs3.out, Hst2.out, Nat.add_sub_cancel, List.getD_eq_getElem?_getD, Hx.out, show x - (p + 1) = x - p - 1 by omega]
                  rfl
                case measure => simp [intOf]; omega
    · obtain rfl : k = n := by omega
      go_wp2
      (try simp only [Exit.inBlock, Exit.then])
      refine Go.Great.bodyPost_end0 rfl rfl ?_
      refine ⟨rfl, hW1.done hF1 ?_ hl1⟩
      rw [Hst.out, hst, List.drop_of_length_le (by omega)]
      rfl
end Go.Proofs.YtcimkoehcdfjdaaGreatDoor
