/-
  The walk of mudlarkkit's KeptParts; what lent parts read as.
-/
import Derived.Test.YtbbjeokecgnfpaaGreatLentParts
import Derived.Test.YtbbjeokecgnfpaaGreatBaseE
namespace Go.Proofs.YtbbjeokecgnfpaaGreat
open Go.RowKit

/-- lent parts, where they lie -/
structure LPAt (w : World) (B o oo : Nat) (ps : List (Nat × LP)) : Prop where
  lt : o < B
  at_ : ∀ (j : Nat) (p : Nat × LP), ps[j]? = some p → p.1 < B ∧ w.rangeAt o (oo + j * 2) (lpRow p) ∧ LPat w p.1 p.2
theorem LPAt.below {w w' : World} {B o oo : Nat} {ps : List (Nat × LP)} (h : LPAt w B o oo ps) (hb : Below B w w') : LPAt w' B o oo ps :=
  ⟨h.lt, fun j p hp => by
    obtain ⟨h1, h2, h3⟩ := h.at_ j p hp
    exact ⟨h1, fun i v hv => (hb.cell (p := ⟨o, oo + j * 2 + i, none⟩) h.lt).trans (h2 i v hv), Blk.below h3 hb h1⟩⟩
theorem flat_two (ps : List (Nat × LP)) : ∀ (j i : Nat) (p : Nat × LP) (v : Value), ps[j]? = some p → (lpRow p)[i]? = some v → (ps.flatMap lpRow)[j * 2 + i]? = some v := by
  induction ps with
  | nil => intro j i p v h; simp at h
  | cons a r ih =>
    intro j i p v h hv
    rw [List.flatMap_cons]
    cases j with
    | zero =>
      simp only [List.getElem?_cons_zero, Option.some.injEq] at h
      subst h
      rw [Nat.zero_mul, Nat.zero_add, List.getElem?_append_left (List.getElem?_eq_some_iff.1 hv).1]
      exact hv
    | succ j =>
      rw [List.getElem?_append_right (by simp only [lpRow, List.length_cons, List.length_nil]; omega), show (j + 1) * 2 + i - (lpRow a).length = j * 2 + i by simp only [lpRow, List.length_cons, List.length_nil]; omega]
      exact ih j i p v (by simpa using h) hv
theorem LPInv.lp {w wr : World} {o N : Nat} {ps : List (Nat × LP)} (h : LPInv w o N ps wr) : LPAt wr wr.heap.size o 0 ps :=
  ⟨(h.own.lt _ rfl).2, fun j p hp => by
    obtain ⟨h1, h2, h3, h4⟩ := h.at_ p (List.mem_of_getElem? hp)
    refine ⟨h2, fun i v hv => ?_, h4⟩
    have hv2 := flat_two ps j i p v hp hv
    have hl := (List.getElem?_eq_some_iff.1 hv2).1
    rw [Nat.zero_add, h.own.cellAt _ (by rw [← h.own.1]; exact hl)]
    exact hv2⟩
theorem LPat.bytes {w : World} {g B : Nat} {p : LP} (h : LPat w g p) (hg : g < B) : BytesAt w B (some ⟨g, 0, none⟩) p.t.b.length p.t.b :=
  BytesAt.of_cells (Blk.cells h) hg rfl (fun j x hx => by
    rw [List.getElem?_toArray, List.getElem?_map, List.getElem?_append_left (List.getElem?_eq_some_iff.1 hx).1, hx]
    rfl)
theorem LPAt.parts {w : World} {B o oo n : Nat} {ps : List (Nat × LP)} {ts : List PartM} (h : LPAt w B o oo ps) (hps : ps.map (·.2) = allLP ts) (hn : ts.length = n) (htot : ∀ t ∈ ts, t.b.length ≤ 1000000) : PartsAt w B (some ⟨o, oo, none⟩) n ts :=
  ⟨hn, fun _ => ⟨o, oo, rfl, h.lt, fun j t ht => by
    have e := allLP_part ht
    rw [← hps, List.getElem?_map] at e
    obtain ⟨p, hp, hp2⟩ := Option.map_eq_some_iff.1 e
    obtain ⟨h1, h2, h3⟩ := h.at_ j p hp
    have hb := h3.bytes h1
    have hm := htot t (List.mem_of_getElem? ht)
    rw [lpRow, hp2] at h2
    rw [hp2] at hb
    exact ⟨_, rfl, ⟨_, _, _, rfl, by omega, by unfold maxLen; dsimp only; omega, by dsimp only; omega, hb⟩, fun i v hv => h2 i v hv⟩⟩⟩

/-- a mark that was just made -/
def mkW (x : UInt8) : List Value → World → Prop
  | [], _ => True
  | v :: _, w => ∃ m, v = .agg #[.int .u8 0, .slice (some ⟨m, 0, none⟩) 1 1] ∧ Blk w m 5 #[.int .u8 (x.toNat : Int)]
theorem mkW.grow {x : UInt8} : ∀ vals w w', Grow w w' → mkW x vals w → mkW x vals w'
  | [], _, _, _, _ => trivial
  | _ :: _, _, _, hg, ⟨m, h1, h2⟩ => ⟨m, h1, h2.below hg h2.lt⟩
theorem mkW.get {x : UInt8} {vals : List Value} {w : World} {v : Value} (h : mkW x vals w) (hv : vals[0]? = some v) : ∃ m, v = .agg #[.int .u8 0, .slice (some ⟨m, 0, none⟩) 1 1] ∧ Blk w m 5 #[.int .u8 (x.toNat : Int)] := by
  cases vals with
  | nil => simp at hv
  | cons a r =>
    simp only [List.getElem?_cons_zero, Option.some.injEq] at hv
    subst hv
    exact h
theorem nothingW.grow : ∀ (vals : List Value) (w w' : World), Grow w w' → (fun (_ : List Value) (_ : World) => True) vals w → (fun (_ : List Value) (_ : World) => True) vals w' := fun _ _ _ _ h => h

set_option maxRecDepth 100000 in
set_option maxHeartbeats 4000000 in
theorem KeptParts_yes (w : World) (B o oo n : Nat) (A : Option Addr) (c : Nat) (ts : List PartM) (ps : List (Nat × LP)) (hps : ps.map (·.2) = allLP ts) (hL : LPAt w B o oo ps) (hT : PartsAt w B A n ts) (hB : B ≤ w.heap.size) (hn : n ≤ 1000000) (htot : ∀ t ∈ ts, t.b.length ≤ 1000000) :
    Calls Tryz.prog 12 #[.slice (some ⟨o, oo, none⟩) n (n + 12), .slice A n c] w fun e w' => e = .returned (.bool true) ∧ Grow w w' := by
  have Hlen := Lib.hid hT.len
  have hnb : ((n : Int) == (n : Int)) = true := by simp
  have hd1 : decide ((n : Int) + 12 ≤ ((n + 12 : Nat) : Int)) = true := decide_eq_true (by omega)
  have Hps := Lib.hid hps
  clear hps
  go_enter Tryz.func12, Tryz.ntmps12
  go_wp2
  go_loopw [6] (fun v6 wr => ∃ k : Nat, k ≤ n + 12 ∧ v6 = .int .i64 (k : Int) ∧ Hid (Grow w wr)) (fun v6 _ => n + 12 - (intOf v6).toNat)
  case atStart => exact ⟨0, by omega, rfl, Grow.refl w⟩
  case round =>
    obtain ⟨k, hk, rfl, hg⟩ := hrel
    by_cases hlt : k < n + 12
    · have hgz := hg.out.size
      obtain ⟨p, hp⟩ : ∃ p, ps[k]? = some p := ⟨_, List.getElem?_eq_getElem (by
        have h := congrArg List.length Hps.out
        rw [List.length_map, allLP_len, Hlen.out] at h
        omega)⟩
      have hp2 : (allLP ts)[k]? = some p.2 := by rw [← Hps.out, List.getElem?_map, hp]; rfl
      obtain ⟨hpB, hpr, hpl⟩ := (hL.below (Below.mono hg.out hB)).at_ k p hp
      obtain ⟨g, P⟩ := p
      have hoB := hL.lt
      have hz1 : o < wr.heap.size := by omega
      have hzg : g < wr.heap.size := by have : g < B := hpB; omega
      by_cases hkn : k < n
      · obtain ⟨t, ht⟩ : ∃ t, ts[k]? = some t := ⟨_, List.getElem?_eq_getElem (by rw [Hlen.out]; exact hkn)⟩
        have hP : P = ⟨t, 12⟩ := by
          have h := allLP_part ht
          rw [hp2] at h
          injection h
        subst hP
        obtain ⟨b2, off2, A1, n1, c1, rfl, hb2, hc0, hc1, -, -, -, hr⟩ := (hT.below (Below.mono hg.out hB)).at_ ht
        have hn1 : n1 ≤ 1000000 := by have := htot t (List.mem_of_getElem? ht); rw [hr.len] at this; exact this
        have hz2 : b2 < wr.heap.size := by omega
        have Hm1 := Lib.hid (show wr.rangeAt o (oo + k * 2) [.int .u8 (t.tag.toNat : Int), .slice (some ⟨g, 0, none⟩) n1 (n1 + 12)] by
          have h := hpr
          rw [lpRow] at h
          dsimp only at h
          rw [hr.len] at h
          exact h)
        have Hm2 := Lib.hid (part_range hc0 hc1)
        have hBz : B ≤ wr.heap.size := by omega
        have Hkp := Lib.hid (show ∀ W, Grow wr W → Calls Tryz.prog 33 #[.agg #[.int .u8 (t.tag.toNat : Int), .slice (some ⟨g, 0, none⟩) n1 (n1 + 12)], .agg #[.int .u8 (t.tag.toNat : Int), .slice A1 n1 c1]] W fun e w' => e = .returned (.bool true) ∧ Grow W w' from fun W h =>
          KeptPart_yes W B g t.tag A1 n1 c1 t.b (Blk.below hpl h hzg) hpB (hr.below (Below.mono h hBz)) (Nat.le_trans hBz h.size) hn1)
        have hg1 : decide ((k : Int) < (n : Int)) = true := decide_eq_true (by omega)
        have hg2 : decide ((n : Int) ≤ (k : Int)) = false := decide_eq_false (by omega)
        have hg3 : decide (k < n) = true := decide_eq_true (by omega)
        have hg4 : decide (n ≤ k) = false := decide_eq_false (by omega)
        clear hp hp2 hpr hpl ht hc0 hc1 hr
        go_upto_region 7 with (fail)
        go_cut [57] from 23 to 57 (fun v57 wx => v57 = .bool false ∧ Grow wr wx)
        case first Jx Kx hJx hMx =>
          refine wp_region_stages (by kernel_rfl) ?_
          refine anyOrder_start [] (Keep (fun _ => False)) (fun _ _ => True) (FactsOn [.is (.int .i64 (k : Int)), .is (.slice (some ⟨b2, off2, none⟩) n c), .is (.int .i64 (n : Int)), .is (.bool true), .is (.bool true), .is (.slice (some ⟨o, oo, none⟩) (n + 12) (n + 12)), .is (.int .i64 (k : Int)), .is (.pointer (some ⟨o, oo + k * 2, none⟩)), .is (.agg #[.int .u8 (t.tag.toNat : Int), .slice (some ⟨g, 0, none⟩) n1 (n1 + 12)]), .is (.slice (some ⟨b2, off2, none⟩) n c), .is (.int .i64 (k : Int)), .is (.pointer (some ⟨b2, off2 + k * 2, none⟩)), .is (.agg #[.int .u8 (t.tag.toNat : Int), .slice A1 n1 c1]), .is (.bool true), .is (.bool false), .is (.bool false), .is (.bool false), .is (.int .i64 (k : Int)), .is (.slice (some ⟨b2, off2, none⟩) n c), .is (.int .i64 (n : Int)), .is (.bool false), .is (.bool false), .is (undef), .is (undef), .is (undef), .is (undef), .is (undef), .is (undef), .is (undef), .is (undef), .is (undef), .is (undef), .is (undef), .is (.bool false), .is (.bool false)]) (fun i => 99) keep_trans keep_grow (fun _ _ _ _ h => h) (factsOn_mono _) (by kernel_rfl) (by kernel_rfl) trivial ?_ ?_
          · refine ⟨?_, ?_, ?_, ?_, ?_, ?_, ?_, ?_, ?_, ?_, ?_, ?_, ?_, ?_, ?_, ?_, ?_, ?_, ?_, ?_, ?_, ?_, ?_, ?_, ?_, ?_, ?_, ?_, ?_, ?_, ?_, ?_, ?_, ?_, ?_, trivial⟩
            · refine stageOf_free rfl (fun _ _ _ _ _ _ => wanted_none rfl) ?_
              intro us vals w3 a' ha hle hW hd hv K hK
              have q6 : a'.tmps[6]? = some (.int .i64 (k : Int)) := by rw [ha.out]; kernel_rfl
              exact step_value (w2 := w3) (by go_simp) (hK _ _ (Grow.refl _) rfl)
            · refine stageOf_free rfl (fun _ _ _ _ _ _ => wanted_none rfl) ?_
              intro us vals w3 a' ha hle hW hd hv K hK
              have q1 : a'.tmps[1]? = some (.slice (some ⟨b2, off2, none⟩) n c) := by rw [ha.out]; kernel_rfl
              exact step_value (w2 := w3) (by go_simp) (hK _ _ (Grow.refl _) rfl)
            · refine stageOf_free rfl (fun _ _ _ _ _ _ => wanted_none rfl) ?_
              intro us vals w3 a' ha hle hW hd hv K hK
              obtain ⟨d1, _⟩ := hd
              have q24 : a'.tmps[24]? = some (us 1) := by rw [ha.out]; kernel_rfl
              rw [show us 1 = .slice (some ⟨b2, off2, none⟩) n c from d1] at q24
              refine step_value (v := .int .i64 (n : Int)) (w2 := w3) ?_ (hK _ _ (Grow.refl _) rfl)
              go_simp
            · refine stageOf_free rfl (fun _ _ _ _ _ _ => wanted_none rfl) ?_
              intro us vals w3 a' ha hle hW hd hv K hK
              obtain ⟨d0, d2, _⟩ := hd
              have q23 : a'.tmps[23]? = some (us 0) := by rw [ha.out]; kernel_rfl
              rw [show us 0 = .int .i64 (k : Int) from d0] at q23
              have q25 : a'.tmps[25]? = some (us 2) := by rw [ha.out]; kernel_rfl
              rw [show us 2 = .int .i64 (n : Int) from d2] at q25
              refine step_value (v := .bool true) (w2 := w3) ?_ (hK _ _ (Grow.refl _) rfl)
              go_simp
            · refine stageOf_free rfl (fun _ _ _ _ _ _ => wanted_none rfl) ?_
              intro us vals w3 a' ha hle hW hd hv K hK
              obtain ⟨d3, _⟩ := hd
              have q26 : a'.tmps[26]? = some (us 3) := by rw [ha.out]; kernel_rfl
              rw [show us 3 = .bool true from d3] at q26
              exact step_value (w2 := w3) (by go_simp) (hK _ _ (Grow.refl _) rfl)
            · refine stageOf_free rfl (fun us vals w3 a' ha hd => ?_) ?_
              · obtain ⟨d4, _⟩ := hd
                have q : a'.tmps[27]? = some (us 4) := by rw [ha.out]; kernel_rfl
                rw [show us 4 = .bool true from d4] at q
                exact wanted_some rfl rfl q
              intro us vals w3 a' ha hle hW hd hv K hK
              have q5 : a'.tmps[5]? = some (.slice (some ⟨o, oo, none⟩) (n + 12) (n + 12)) := by rw [ha.out]; kernel_rfl
              exact step_value (w2 := w3) (by go_simp) (hK _ _ (Grow.refl _) rfl)
            · refine stageOf_free rfl (fun us vals w3 a' ha hd => ?_) ?_
              · obtain ⟨d4, _⟩ := hd
                have q : a'.tmps[27]? = some (us 4) := by rw [ha.out]; kernel_rfl
                rw [show us 4 = .bool true from d4] at q
                exact wanted_some rfl rfl q
              intro us vals w3 a' ha hle hW hd hv K hK
              have q6 : a'.tmps[6]? = some (.int .i64 (k : Int)) := by rw [ha.out]; kernel_rfl
              exact step_value (w2 := w3) (by go_simp) (hK _ _ (Grow.refl _) rfl)
            · refine stageOf_free rfl (fun us vals w3 a' ha hd => ?_) ?_
              · obtain ⟨_, _, d4, _⟩ := hd
                have q : a'.tmps[27]? = some (us 4) := by rw [ha.out]; kernel_rfl
                rw [show us 4 = .bool true from d4] at q
                exact wanted_some rfl rfl q
              intro us vals w3 a' ha hle hW hd hv K hK
              obtain ⟨d5, d6, _, _⟩ := hd
              have q28 : a'.tmps[28]? = some (us 5) := by rw [ha.out]; kernel_rfl
              rw [show us 5 = .slice (some ⟨o, oo, none⟩) (n + 12) (n + 12) from d5] at q28
              have q29 : a'.tmps[29]? = some (us 6) := by rw [ha.out]; kernel_rfl
              rw [show us 6 = .int .i64 (k : Int) from d6] at q29
              refine step_value (v := .pointer (some ⟨o, oo + k * 2, none⟩)) (w2 := w3) ?_ (hK _ _ (Grow.refl _) rfl)
              go_simp
              (try (intro h; omega))
            · refine stageOf_free rfl (fun us vals w3 a' ha hd => ?_) ?_
              · obtain ⟨_, d4, _⟩ := hd
                have q : a'.tmps[27]? = some (us 4) := by rw [ha.out]; kernel_rfl
                rw [show us 4 = .bool true from d4] at q
                exact wanted_some rfl rfl q
              intro us vals w3 a' ha hle hW hd hv K hK
              obtain ⟨d7, _, _⟩ := hd
              have q30 : a'.tmps[30]? = some (us 7) := by rw [ha.out]; kernel_rfl
              rw [show us 7 = .pointer (some ⟨o, oo + k * 2, none⟩) from d7] at q30
              exact wp_load_mid 45 (.tmp 30) rfl o (oo + k * 2) (eval_tmp q30) _ _ (fun j v hj => (hle.toGrow.cell (p := ⟨o, oo + k * 2 + j, none⟩) hz1).trans (Hm1.out j v hj)) Tryz.underlying45 rfl (by kernel_rfl) (hK _ _ (Grow.refl _) rfl)
            · refine stageOf_free rfl (fun us vals w3 a' ha hd => ?_) ?_
              · obtain ⟨d4, _⟩ := hd
                have q : a'.tmps[27]? = some (us 4) := by rw [ha.out]; kernel_rfl
                rw [show us 4 = .bool true from d4] at q
                exact wanted_some rfl rfl q
              intro us vals w3 a' ha hle hW hd hv K hK
              have q1 : a'.tmps[1]? = some (.slice (some ⟨b2, off2, none⟩) n c) := by rw [ha.out]; kernel_rfl
              exact step_value (w2 := w3) (by go_simp) (hK _ _ (Grow.refl _) rfl)
            · refine stageOf_free rfl (fun us vals w3 a' ha hd => ?_) ?_
              · obtain ⟨d4, _⟩ := hd
                have q : a'.tmps[27]? = some (us 4) := by rw [ha.out]; kernel_rfl
                rw [show us 4 = .bool true from d4] at q
                exact wanted_some rfl rfl q
              intro us vals w3 a' ha hle hW hd hv K hK
              have q6 : a'.tmps[6]? = some (.int .i64 (k : Int)) := by rw [ha.out]; kernel_rfl
              exact step_value (w2 := w3) (by go_simp) (hK _ _ (Grow.refl _) rfl)
            · refine stageOf_free rfl (fun us vals w3 a' ha hd => ?_) ?_
              · obtain ⟨_, _, d4, _⟩ := hd
                have q : a'.tmps[27]? = some (us 4) := by rw [ha.out]; kernel_rfl
                rw [show us 4 = .bool true from d4] at q
                exact wanted_some rfl rfl q
              intro us vals w3 a' ha hle hW hd hv K hK
              obtain ⟨d9, d10, _, _⟩ := hd
              have q32 : a'.tmps[32]? = some (us 9) := by rw [ha.out]; kernel_rfl
              rw [show us 9 = .slice (some ⟨b2, off2, none⟩) n c from d9] at q32
              have q33 : a'.tmps[33]? = some (us 10) := by rw [ha.out]; kernel_rfl
              rw [show us 10 = .int .i64 (k : Int) from d10] at q33
              refine step_value (v := .pointer (some ⟨b2, off2 + k * 2, none⟩)) (w2 := w3) ?_ (hK _ _ (Grow.refl _) rfl)
              go_simp
              (try (intro h; omega))
            · refine stageOf_free rfl (fun us vals w3 a' ha hd => ?_) ?_
              · obtain ⟨_, d4, _⟩ := hd
                have q : a'.tmps[27]? = some (us 4) := by rw [ha.out]; kernel_rfl
                rw [show us 4 = .bool true from d4] at q
                exact wanted_some rfl rfl q
              intro us vals w3 a' ha hle hW hd hv K hK
              obtain ⟨d11, _, _⟩ := hd
              have q34 : a'.tmps[34]? = some (us 11) := by rw [ha.out]; kernel_rfl
              rw [show us 11 = .pointer (some ⟨b2, off2 + k * 2, none⟩) from d11] at q34
              exact wp_load_mid 45 (.tmp 34) rfl b2 (off2 + k * 2) (eval_tmp q34) _ _ (fun j v hj => (hle.toGrow.cell (p := ⟨b2, off2 + k * 2 + j, none⟩) hz2).trans (Hm2.out j v hj)) Tryz.underlying45 rfl (by kernel_rfl) (hK _ _ (Grow.refl _) rfl)
            · refine stageOf_free rfl (fun us vals w3 a' ha hd => ?_) ?_
              · obtain ⟨_, _, d4, _, _⟩ := hd
                have q : a'.tmps[27]? = some (us 4) := by rw [ha.out]; kernel_rfl
                rw [show us 4 = .bool true from d4] at q
                exact wanted_some rfl rfl q
              intro us vals w3 a' ha hle hW hd hv K hK
              obtain ⟨d8, d12, _, _, _⟩ := hd
              have q31 : a'.tmps[31]? = some (us 8) := by rw [ha.out]; kernel_rfl
              rw [show us 8 = .agg #[.int .u8 (t.tag.toNat : Int), .slice (some ⟨g, 0, none⟩) n1 (n1 + 12)] from d8] at q31
              have q35 : a'.tmps[35]? = some (us 12) := by rw [ha.out]; kernel_rfl
              rw [show us 12 = .agg #[.int .u8 (t.tag.toNat : Int), .slice A1 n1 c1] from d12] at q35
              refine step_call (f := 33) (args := #[.agg #[.int .u8 (t.tag.toNat : Int), .slice (some ⟨g, 0, none⟩) n1 (n1 + 12)], .agg #[.int .u8 (t.tag.toNat : Int), .slice A1 n1 c1]]) (by go_simp) ?_
              refine (Hkp.out w3 hle.toGrow).mono ?_
              rintro e w4 ⟨rfl, hg4⟩
              exact ⟨_, rfl, hK _ _ hg4 rfl⟩
            · refine stageOf_free rfl (fun us vals w3 a' ha hd => ?_) ?_
              · obtain ⟨_, d4, _⟩ := hd
                have q : a'.tmps[27]? = some (us 4) := by rw [ha.out]; kernel_rfl
                rw [show us 4 = .bool true from d4] at q
                exact wanted_some rfl rfl q
              intro us vals w3 a' ha hle hW hd hv K hK
              obtain ⟨d13, _, _⟩ := hd
              have q36 : a'.tmps[36]? = some (us 13) := by rw [ha.out]; kernel_rfl
              rw [show us 13 = .bool true from d13] at q36
              refine step_value (v := .bool false) (w2 := w3) ?_ (hK _ _ (Grow.refl _) rfl)
              go_simp
            · refine stageOf_free rfl (fun _ _ _ _ _ _ => wanted_none rfl) ?_
              intro us vals w3 a' ha hle hW hd hv K hK
              obtain ⟨d4, d14, _⟩ := hd
              have q27 : a'.tmps[27]? = some (us 4) := by rw [ha.out]; kernel_rfl
              rw [show us 4 = .bool true from d4] at q27
              have q37 : a'.tmps[37]? = some (us 14) := by rw [ha.out]; kernel_rfl
              rw [show us 14 = .bool false from d14] at q37
              refine step_value (v := .bool false) (w2 := w3) ?_ (hK _ _ (Grow.refl _) rfl)
              go_simp
            · refine stageOf_free rfl (fun _ _ _ _ _ _ => wanted_none rfl) ?_
              intro us vals w3 a' ha hle hW hd hv K hK
              obtain ⟨d15, _, _⟩ := hd
              have q38 : a'.tmps[38]? = some (us 15) := by rw [ha.out]; kernel_rfl
              rw [show us 15 = .bool false from d15] at q38
              exact step_value (w2 := w3) (by go_simp) (hK _ _ (Grow.refl _) rfl)
            · refine stageOf_free rfl (fun us vals w3 a' ha hd => ?_) ?_
              · obtain ⟨d16, _⟩ := hd
                have q : a'.tmps[39]? = some (us 16) := by rw [ha.out]; kernel_rfl
                rw [show us 16 = .bool false from d16] at q
                exact wanted_some rfl rfl q
              intro us vals w3 a' ha hle hW hd hv K hK
              have q6 : a'.tmps[6]? = some (.int .i64 (k : Int)) := by rw [ha.out]; kernel_rfl
              exact step_value (w2 := w3) (by go_simp) (hK _ _ (Grow.refl _) rfl)
            · refine stageOf_free rfl (fun us vals w3 a' ha hd => ?_) ?_
              · obtain ⟨d16, _⟩ := hd
                have q : a'.tmps[39]? = some (us 16) := by rw [ha.out]; kernel_rfl
                rw [show us 16 = .bool false from d16] at q
                exact wanted_some rfl rfl q
              intro us vals w3 a' ha hle hW hd hv K hK
              have q1 : a'.tmps[1]? = some (.slice (some ⟨b2, off2, none⟩) n c) := by rw [ha.out]; kernel_rfl
              exact step_value (w2 := w3) (by go_simp) (hK _ _ (Grow.refl _) rfl)
            · refine stageOf_free rfl (fun us vals w3 a' ha hd => ?_) ?_
              · obtain ⟨_, d16, _⟩ := hd
                have q : a'.tmps[39]? = some (us 16) := by rw [ha.out]; kernel_rfl
                rw [show us 16 = .bool false from d16] at q
                exact wanted_some rfl rfl q
              intro us vals w3 a' ha hle hW hd hv K hK
              obtain ⟨d18, _, _⟩ := hd
              have q41 : a'.tmps[41]? = some (us 18) := by rw [ha.out]; kernel_rfl
              rw [show us 18 = .slice (some ⟨b2, off2, none⟩) n c from d18] at q41
              refine step_value (v := .int .i64 (n : Int)) (w2 := w3) ?_ (hK _ _ (Grow.refl _) rfl)
              go_simp
            · refine stageOf_free rfl (fun us vals w3 a' ha hd => ?_) ?_
              · obtain ⟨_, _, d16, _⟩ := hd
                have q : a'.tmps[39]? = some (us 16) := by rw [ha.out]; kernel_rfl
                rw [show us 16 = .bool false from d16] at q
                exact wanted_some rfl rfl q
              intro us vals w3 a' ha hle hW hd hv K hK
              obtain ⟨d17, d19, _, _⟩ := hd
              have q40 : a'.tmps[40]? = some (us 17) := by rw [ha.out]; kernel_rfl
              rw [show us 17 = .int .i64 (k : Int) from d17] at q40
              have q42 : a'.tmps[42]? = some (us 19) := by rw [ha.out]; kernel_rfl
              rw [show us 19 = .int .i64 (n : Int) from d19] at q42
              refine step_value (v := .bool false) (w2 := w3) ?_ (hK _ _ (Grow.refl _) rfl)
              go_simp
            · refine stageOf_free rfl (fun us vals w3 a' ha hd => ?_) ?_
              · obtain ⟨_, d16, _, _⟩ := hd
                have q : a'.tmps[39]? = some (us 16) := by rw [ha.out]; kernel_rfl
                rw [show us 16 = .bool false from d16] at q
                exact wanted_some rfl rfl q
              intro us vals w3 a' ha hle hW hd hv K hK
              obtain ⟨d20, _, _, _⟩ := hd
              have q43 : a'.tmps[43]? = some (us 20) := by rw [ha.out]; kernel_rfl
              rw [show us 20 = .bool false from d20] at q43
              exact step_value (w2 := w3) (by go_simp) (hK _ _ (Grow.refl _) rfl)
            · refine stageOf_skip rfl (fun us vals w3 a' ha hd => ?_) (fun _ => rfl)
              obtain ⟨d21, _⟩ := hd
              have q : a'.tmps[44]? = some (us 21) := by rw [ha.out]; kernel_rfl
              rw [show us 21 = .bool false from d21] at q
              exact wanted_other rfl rfl q
            · refine stageOf_skip rfl (fun us vals w3 a' ha hd => ?_) (fun _ => rfl)
              obtain ⟨d21, _⟩ := hd
              have q : a'.tmps[44]? = some (us 21) := by rw [ha.out]; kernel_rfl
              rw [show us 21 = .bool false from d21] at q
              exact wanted_other rfl rfl q
            · refine stageOf_skip rfl (fun us vals w3 a' ha hd => ?_) (fun _ => rfl)
              obtain ⟨_, _, d21, _⟩ := hd
              have q : a'.tmps[44]? = some (us 21) := by rw [ha.out]; kernel_rfl
              rw [show us 21 = .bool false from d21] at q
              exact wanted_other rfl rfl q
            · refine stageOf_skip rfl (fun us vals w3 a' ha hd => ?_) (fun _ => rfl)
              obtain ⟨_, d21, _⟩ := hd
              have q : a'.tmps[44]? = some (us 21) := by rw [ha.out]; kernel_rfl
              rw [show us 21 = .bool false from d21] at q
              exact wanted_other rfl rfl q
            · refine stageOf_skip rfl (fun us vals w3 a' ha hd => ?_) (fun _ => rfl)
              obtain ⟨d21, _⟩ := hd
              have q : a'.tmps[44]? = some (us 21) := by rw [ha.out]; kernel_rfl
              rw [show us 21 = .bool false from d21] at q
              exact wanted_other rfl rfl q
            · refine stageOf_skip rfl (fun us vals w3 a' ha hd => ?_) (fun _ => rfl)
              obtain ⟨d21, _⟩ := hd
              have q : a'.tmps[44]? = some (us 21) := by rw [ha.out]; kernel_rfl
              rw [show us 21 = .bool false from d21] at q
              exact wanted_other rfl rfl q
            · refine stageOf_skip rfl (fun us vals w3 a' ha hd => ?_) (fun _ => rfl)
              obtain ⟨_, d21, _⟩ := hd
              have q : a'.tmps[44]? = some (us 21) := by rw [ha.out]; kernel_rfl
              rw [show us 21 = .bool false from d21] at q
              exact wanted_other rfl rfl q
            · refine stageOf_skip rfl (fun us vals w3 a' ha hd => ?_) (fun _ => rfl)
              obtain ⟨_, _, d21, _⟩ := hd
              have q : a'.tmps[44]? = some (us 21) := by rw [ha.out]; kernel_rfl
              rw [show us 21 = .bool false from d21] at q
              exact wanted_other rfl rfl q
            · refine stageOf_skip rfl (fun us vals w3 a' ha hd => ?_) (fun _ => rfl)
              obtain ⟨_, d21, _, _⟩ := hd
              have q : a'.tmps[44]? = some (us 21) := by rw [ha.out]; kernel_rfl
              rw [show us 21 = .bool false from d21] at q
              exact wanted_other rfl rfl q
            · refine stageOf_skip rfl (fun us vals w3 a' ha hd => ?_) (fun _ => rfl)
              obtain ⟨_, _, _, d21, _⟩ := hd
              have q : a'.tmps[44]? = some (us 21) := by rw [ha.out]; kernel_rfl
              rw [show us 21 = .bool false from d21] at q
              exact wanted_other rfl rfl q
            · refine stageOf_skip rfl (fun us vals w3 a' ha hd => ?_) (fun _ => rfl)
              obtain ⟨_, d21, _⟩ := hd
              have q : a'.tmps[44]? = some (us 21) := by rw [ha.out]; kernel_rfl
              rw [show us 21 = .bool false from d21] at q
              exact wanted_other rfl rfl q
            · refine stageOf_free rfl (fun us vals w3 a' ha hd => ?_) ?_
              · obtain ⟨_, _, d16, _⟩ := hd
                have q : a'.tmps[39]? = some (us 16) := by rw [ha.out]; kernel_rfl
                rw [show us 16 = .bool false from d16] at q
                exact wanted_some rfl rfl q
              intro us vals w3 a' ha hle hW hd hv K hK
              obtain ⟨d21, d32, _, _⟩ := hd
              have q44 : a'.tmps[44]? = some (us 21) := by rw [ha.out]; kernel_rfl
              rw [show us 21 = .bool false from d21] at q44
              have q55 : a'.tmps[55]? = some (us 32) := by rw [ha.out]; kernel_rfl
              rw [show us 32 = undef from d32] at q55
              refine step_value (v := .bool false) (w2 := w3) ?_ (hK _ _ (Grow.refl _) rfl)
              go_simp
            · refine stageOf_free rfl (fun _ _ _ _ _ _ => wanted_none rfl) ?_
              intro us vals w3 a' ha hle hW hd hv K hK
              obtain ⟨d16, d33, _⟩ := hd
              have q39 : a'.tmps[39]? = some (us 16) := by rw [ha.out]; kernel_rfl
              rw [show us 16 = .bool false from d16] at q39
              have q56 : a'.tmps[56]? = some (us 33) := by rw [ha.out]; kernel_rfl
              rw [show us 33 = .bool false from d33] at q56
              refine step_value (v := .bool false) (w2 := w3) ?_ (hK _ _ (Grow.refl _) rfl)
              go_simp
          · intro us vals w3 hle hvl _ _ hf
            have h34 : us 34 = .bool false := hf 34 (by decide) rfl
            exact hMx _ _ (Met.intro (hJx _ _ ⟨us 0, us 1, us 2, us 3, us 4, us 5, us 6, us 7, us 8, us 9, us 10, us 11, us 12, us 13, us 14, us 15, us 16, us 17, us 18, us 19, us 20, us 21, us 22, us 23, us 24, us 25, us 26, us 27, us 28, us 29, us 30, us 31, us 32, us 33, us 34, ⟨h34, hle.toGrow⟩, by kernel_rfl⟩))
        case rest =>
          obtain ⟨rfl, hgx⟩ := hcut
          have HG := Lib.hid (hg.out.trans hgx)
          clear hgx hg
          go_wp2
          go_roundw
          case rel => exact ⟨k + 1, by omega, by go_num, HG⟩
          case measure => simp [intOf]; omega
      · obtain ⟨x, hx⟩ : ∃ x, x = markB 1 ((k : Int) - (n : Int)) := ⟨_, rfl⟩
        have hP : P = ⟨⟨0, [x]⟩, 0⟩ := by
          have h := allLP_mark (ts := ts) (n := n) (i := k - n) Hlen.out (by omega)
          rw [show n + (k - n) = k by omega, hp2] at h
          injection h with h
          rw [show P = markLP (k - n) from h, markLP, hx, show (((k - n : Nat) : Int)) = (k : Int) - (n : Int) by omega]
        subst hP
        have Hm1 := Lib.hid (show wr.rangeAt o (oo + k * 2) [.int .u8 0, .slice (some ⟨g, 0, none⟩) 1 1] from hpr)
        have Hbl := Lib.hid (show ∀ W, Grow wr W → BytesAt W W.heap.size (some ⟨g, 0, none⟩) 1 [x] from fun W h => LPat.bytes (p := ⟨⟨0, [x]⟩, 0⟩) (Blk.below hpl h hzg) (Nat.lt_of_lt_of_le hzg h.size))
        have Hmk := Lib.hid (show ∀ W, Calls Tryz.prog 24 #[.int .i64 1, .int .i64 ((k : Int) - (n : Int))] W fun e w' => ∃ m, e = .returned (.agg #[.int .u8 0, .slice (some ⟨m, 0, none⟩) 1 1]) ∧ W.heap.size ≤ m ∧ Blk w' m 5 #[.int .u8 (x.toNat : Int)] ∧ Grow W w' from fun W => by
          rw [hx]
          exact markPart_any 1 ((k : Int) - (n : Int)) W (by omega) (by omega) (by omega) (by omega))
        have Hsp := Lib.hid (show ∀ W m, Grow wr W → Blk W m 5 #[.int .u8 (x.toNat : Int)] → Calls Tryz.prog 34 #[.agg #[.int .u8 0, .slice (some ⟨g, 0, none⟩) 1 1], .agg #[.int .u8 0, .slice (some ⟨m, 0, none⟩) 1 1]] W fun e w' => e = .returned (.bool true) ∧ Grow W w' from fun W m h hm =>
          SamePart_any W W.heap.size ⟨0, [x]⟩ ⟨0, [x]⟩ (some ⟨g, 0, none⟩) 1 1 (some ⟨m, 0, none⟩) 1 1 (Hbl.out W h) (ReadsAt.more hm.reads1 hm.lt) (Nat.le_refl _) (by decide) (by decide) true (Lib.hid (by rw [samePartB, sameL_self]; rfl)))
        have hw1 : IntKind.i64.wrap ((k : Int) - (n : Int)) = (k : Int) - (n : Int) := IntWalk.i64_in _ (by omega)
        have hg1 : decide ((k : Int) < (n : Int)) = false := decide_eq_false (by omega)
        have hg2 : decide ((n : Int) ≤ (k : Int)) = true := decide_eq_true (by omega)
        have hg3 : decide (k < n) = false := decide_eq_false (by omega)
        have hg4 : decide (n ≤ k) = true := decide_eq_true (by omega)
        clear hp hp2 hpr hpl hx
        go_upto_region 7 with (fail)
        go_cut [57] from 23 to 57 (fun v57 wx => v57 = .bool false ∧ Grow wr wx)
        case first Jx Kx hJx hMx =>
          refine wp_region_stages (by kernel_rfl) ?_
          refine anyOrder_start [30] (Keep (fun _ => False)) (mkW x) (FactsOn [.is (.int .i64 (k : Int)), .is (.slice A n c), .is (.int .i64 (n : Int)), .is (.bool false), .is (.bool false), .is (undef), .is (undef), .is (undef), .is (undef), .is (undef), .is (undef), .is (undef), .is (undef), .is (undef), .is (undef), .is (.bool false), .is (.bool false), .is (.int .i64 (k : Int)), .is (.slice A n c), .is (.int .i64 (n : Int)), .is (.bool true), .is (.bool true), .is (.slice (some ⟨o, oo, none⟩) (n + 12) (n + 12)), .is (.int .i64 (k : Int)), .is (.pointer (some ⟨o, oo + k * 2, none⟩)), .is (.agg #[.int .u8 0, .slice (some ⟨g, 0, none⟩) 1 1]), .is (.int .i64 (k : Int)), .is (.slice A n c), .is (.int .i64 (n : Int)), .is (.int .i64 ((k : Int) - (n : Int))), .any, .is (.bool true), .is (.bool false), .is (.bool false), .is (.bool false)]) (fun i => 99) keep_trans keep_grow (mkW.grow) (factsOn_mono _) (by kernel_rfl) (by kernel_rfl) trivial ?_ ?_
          · refine ⟨?_, ?_, ?_, ?_, ?_, ?_, ?_, ?_, ?_, ?_, ?_, ?_, ?_, ?_, ?_, ?_, ?_, ?_, ?_, ?_, ?_, ?_, ?_, ?_, ?_, ?_, ?_, ?_, ?_, ?_, ?_, ?_, ?_, ?_, ?_, trivial⟩
            · refine stageOf_free rfl (fun _ _ _ _ _ _ => wanted_none rfl) ?_
              intro us vals w3 a' ha hle hW hd hv K hK
              have q6 : a'.tmps[6]? = some (.int .i64 (k : Int)) := by rw [ha.out]; kernel_rfl
              exact step_value (w2 := w3) (by go_simp) (hK _ _ (Grow.refl _) rfl)
            · refine stageOf_free rfl (fun _ _ _ _ _ _ => wanted_none rfl) ?_
              intro us vals w3 a' ha hle hW hd hv K hK
              have q1 : a'.tmps[1]? = some (.slice A n c) := by rw [ha.out]; kernel_rfl
              exact step_value (w2 := w3) (by go_simp) (hK _ _ (Grow.refl _) rfl)
            · refine stageOf_free rfl (fun _ _ _ _ _ _ => wanted_none rfl) ?_
              intro us vals w3 a' ha hle hW hd hv K hK
              obtain ⟨d1, _⟩ := hd
              have q24 : a'.tmps[24]? = some (us 1) := by rw [ha.out]; kernel_rfl
              rw [show us 1 = .slice A n c from d1] at q24
              refine step_value (v := .int .i64 (n : Int)) (w2 := w3) ?_ (hK _ _ (Grow.refl _) rfl)
              go_simp
            · refine stageOf_free rfl (fun _ _ _ _ _ _ => wanted_none rfl) ?_
              intro us vals w3 a' ha hle hW hd hv K hK
              obtain ⟨d0, d2, _⟩ := hd
              have q23 : a'.tmps[23]? = some (us 0) := by rw [ha.out]; kernel_rfl
              rw [show us 0 = .int .i64 (k : Int) from d0] at q23
              have q25 : a'.tmps[25]? = some (us 2) := by rw [ha.out]; kernel_rfl
              rw [show us 2 = .int .i64 (n : Int) from d2] at q25
              refine step_value (v := .bool false) (w2 := w3) ?_ (hK _ _ (Grow.refl _) rfl)
              go_simp
            · refine stageOf_free rfl (fun _ _ _ _ _ _ => wanted_none rfl) ?_
              intro us vals w3 a' ha hle hW hd hv K hK
              obtain ⟨d3, _⟩ := hd
              have q26 : a'.tmps[26]? = some (us 3) := by rw [ha.out]; kernel_rfl
              rw [show us 3 = .bool false from d3] at q26
              exact step_value (w2 := w3) (by go_simp) (hK _ _ (Grow.refl _) rfl)
            · refine stageOf_skip rfl (fun us vals w3 a' ha hd => ?_) (fun _ => rfl)
              obtain ⟨d4, _⟩ := hd
              have q : a'.tmps[27]? = some (us 4) := by rw [ha.out]; kernel_rfl
              rw [show us 4 = .bool false from d4] at q
              exact wanted_other rfl rfl q
            · refine stageOf_skip rfl (fun us vals w3 a' ha hd => ?_) (fun _ => rfl)
              obtain ⟨d4, _⟩ := hd
              have q : a'.tmps[27]? = some (us 4) := by rw [ha.out]; kernel_rfl
              rw [show us 4 = .bool false from d4] at q
              exact wanted_other rfl rfl q
            · refine stageOf_skip rfl (fun us vals w3 a' ha hd => ?_) (fun _ => rfl)
              obtain ⟨_, _, d4, _⟩ := hd
              have q : a'.tmps[27]? = some (us 4) := by rw [ha.out]; kernel_rfl
              rw [show us 4 = .bool false from d4] at q
              exact wanted_other rfl rfl q
            · refine stageOf_skip rfl (fun us vals w3 a' ha hd => ?_) (fun _ => rfl)
              obtain ⟨_, d4, _⟩ := hd
              have q : a'.tmps[27]? = some (us 4) := by rw [ha.out]; kernel_rfl
              rw [show us 4 = .bool false from d4] at q
              exact wanted_other rfl rfl q
            · refine stageOf_skip rfl (fun us vals w3 a' ha hd => ?_) (fun _ => rfl)
              obtain ⟨d4, _⟩ := hd
              have q : a'.tmps[27]? = some (us 4) := by rw [ha.out]; kernel_rfl
              rw [show us 4 = .bool false from d4] at q
              exact wanted_other rfl rfl q
            · refine stageOf_skip rfl (fun us vals w3 a' ha hd => ?_) (fun _ => rfl)
              obtain ⟨d4, _⟩ := hd
              have q : a'.tmps[27]? = some (us 4) := by rw [ha.out]; kernel_rfl
              rw [show us 4 = .bool false from d4] at q
              exact wanted_other rfl rfl q
            · refine stageOf_skip rfl (fun us vals w3 a' ha hd => ?_) (fun _ => rfl)
              obtain ⟨_, _, d4, _⟩ := hd
              have q : a'.tmps[27]? = some (us 4) := by rw [ha.out]; kernel_rfl
              rw [show us 4 = .bool false from d4] at q
              exact wanted_other rfl rfl q
            · refine stageOf_skip rfl (fun us vals w3 a' ha hd => ?_) (fun _ => rfl)
              obtain ⟨_, d4, _⟩ := hd
              have q : a'.tmps[27]? = some (us 4) := by rw [ha.out]; kernel_rfl
              rw [show us 4 = .bool false from d4] at q
              exact wanted_other rfl rfl q
            · refine stageOf_skip rfl (fun us vals w3 a' ha hd => ?_) (fun _ => rfl)
              obtain ⟨_, _, d4, _, _⟩ := hd
              have q : a'.tmps[27]? = some (us 4) := by rw [ha.out]; kernel_rfl
              rw [show us 4 = .bool false from d4] at q
              exact wanted_other rfl rfl q
            · refine stageOf_skip rfl (fun us vals w3 a' ha hd => ?_) (fun _ => rfl)
              obtain ⟨_, d4, _⟩ := hd
              have q : a'.tmps[27]? = some (us 4) := by rw [ha.out]; kernel_rfl
              rw [show us 4 = .bool false from d4] at q
              exact wanted_other rfl rfl q
            · refine stageOf_free rfl (fun _ _ _ _ _ _ => wanted_none rfl) ?_
              intro us vals w3 a' ha hle hW hd hv K hK
              obtain ⟨d4, d14, _⟩ := hd
              have q27 : a'.tmps[27]? = some (us 4) := by rw [ha.out]; kernel_rfl
              rw [show us 4 = .bool false from d4] at q27
              have q37 : a'.tmps[37]? = some (us 14) := by rw [ha.out]; kernel_rfl
              rw [show us 14 = undef from d14] at q37
              refine step_value (v := .bool false) (w2 := w3) ?_ (hK _ _ (Grow.refl _) rfl)
              go_simp
            · refine stageOf_free rfl (fun _ _ _ _ _ _ => wanted_none rfl) ?_
              intro us vals w3 a' ha hle hW hd hv K hK
              obtain ⟨d15, _, _⟩ := hd
              have q38 : a'.tmps[38]? = some (us 15) := by rw [ha.out]; kernel_rfl
              rw [show us 15 = .bool false from d15] at q38
              exact step_value (w2 := w3) (by go_simp) (hK _ _ (Grow.refl _) rfl)
            · refine stageOf_free rfl (fun us vals w3 a' ha hd => ?_) ?_
              · obtain ⟨d16, _⟩ := hd
                have q : a'.tmps[39]? = some (us 16) := by rw [ha.out]; kernel_rfl
                rw [show us 16 = .bool false from d16] at q
                exact wanted_some rfl rfl q
              intro us vals w3 a' ha hle hW hd hv K hK
              have q6 : a'.tmps[6]? = some (.int .i64 (k : Int)) := by rw [ha.out]; kernel_rfl
              exact step_value (w2 := w3) (by go_simp) (hK _ _ (Grow.refl _) rfl)
            · refine stageOf_free rfl (fun us vals w3 a' ha hd => ?_) ?_
              · obtain ⟨d16, _⟩ := hd
                have q : a'.tmps[39]? = some (us 16) := by rw [ha.out]; kernel_rfl
                rw [show us 16 = .bool false from d16] at q
                exact wanted_some rfl rfl q
              intro us vals w3 a' ha hle hW hd hv K hK
              have q1 : a'.tmps[1]? = some (.slice A n c) := by rw [ha.out]; kernel_rfl
              exact step_value (w2 := w3) (by go_simp) (hK _ _ (Grow.refl _) rfl)
            · refine stageOf_free rfl (fun us vals w3 a' ha hd => ?_) ?_
              · obtain ⟨_, d16, _⟩ := hd
                have q : a'.tmps[39]? = some (us 16) := by rw [ha.out]; kernel_rfl
                rw [show us 16 = .bool false from d16] at q
                exact wanted_some rfl rfl q
              intro us vals w3 a' ha hle hW hd hv K hK
              obtain ⟨d18, _, _⟩ := hd
              have q41 : a'.tmps[41]? = some (us 18) := by rw [ha.out]; kernel_rfl
              rw [show us 18 = .slice A n c from d18] at q41
              refine step_value (v := .int .i64 (n : Int)) (w2 := w3) ?_ (hK _ _ (Grow.refl _) rfl)
              go_simp
            · refine stageOf_free rfl (fun us vals w3 a' ha hd => ?_) ?_
              · obtain ⟨_, _, d16, _⟩ := hd
                have q : a'.tmps[39]? = some (us 16) := by rw [ha.out]; kernel_rfl
                rw [show us 16 = .bool false from d16] at q
                exact wanted_some rfl rfl q
              intro us vals w3 a' ha hle hW hd hv K hK
              obtain ⟨d17, d19, _, _⟩ := hd
              have q40 : a'.tmps[40]? = some (us 17) := by rw [ha.out]; kernel_rfl
              rw [show us 17 = .int .i64 (k : Int) from d17] at q40
              have q42 : a'.tmps[42]? = some (us 19) := by rw [ha.out]; kernel_rfl
              rw [show us 19 = .int .i64 (n : Int) from d19] at q42
              refine step_value (v := .bool true) (w2 := w3) ?_ (hK _ _ (Grow.refl _) rfl)
              go_simp
            · refine stageOf_free rfl (fun us vals w3 a' ha hd => ?_) ?_
              · obtain ⟨_, d16, _, _⟩ := hd
                have q : a'.tmps[39]? = some (us 16) := by rw [ha.out]; kernel_rfl
                rw [show us 16 = .bool false from d16] at q
                exact wanted_some rfl rfl q
              intro us vals w3 a' ha hle hW hd hv K hK
              obtain ⟨d20, _, _, _⟩ := hd
              have q43 : a'.tmps[43]? = some (us 20) := by rw [ha.out]; kernel_rfl
              rw [show us 20 = .bool true from d20] at q43
              exact step_value (w2 := w3) (by go_simp) (hK _ _ (Grow.refl _) rfl)
            · refine stageOf_free rfl (fun us vals w3 a' ha hd => ?_) ?_
              · obtain ⟨d21, _⟩ := hd
                have q : a'.tmps[44]? = some (us 21) := by rw [ha.out]; kernel_rfl
                rw [show us 21 = .bool true from d21] at q
                exact wanted_some rfl rfl q
              intro us vals w3 a' ha hle hW hd hv K hK
              have q5 : a'.tmps[5]? = some (.slice (some ⟨o, oo, none⟩) (n + 12) (n + 12)) := by rw [ha.out]; kernel_rfl
              exact step_value (w2 := w3) (by go_simp) (hK _ _ (Grow.refl _) rfl)
            · refine stageOf_free rfl (fun us vals w3 a' ha hd => ?_) ?_
              · obtain ⟨d21, _⟩ := hd
                have q : a'.tmps[44]? = some (us 21) := by rw [ha.out]; kernel_rfl
                rw [show us 21 = .bool true from d21] at q
                exact wanted_some rfl rfl q
              intro us vals w3 a' ha hle hW hd hv K hK
              have q6 : a'.tmps[6]? = some (.int .i64 (k : Int)) := by rw [ha.out]; kernel_rfl
              exact step_value (w2 := w3) (by go_simp) (hK _ _ (Grow.refl _) rfl)
            · refine stageOf_free rfl (fun us vals w3 a' ha hd => ?_) ?_
              · obtain ⟨_, _, d21, _⟩ := hd
                have q : a'.tmps[44]? = some (us 21) := by rw [ha.out]; kernel_rfl
                rw [show us 21 = .bool true from d21] at q
                exact wanted_some rfl rfl q
              intro us vals w3 a' ha hle hW hd hv K hK
              obtain ⟨d22, d23, _, _⟩ := hd
              have q45 : a'.tmps[45]? = some (us 22) := by rw [ha.out]; kernel_rfl
              rw [show us 22 = .slice (some ⟨o, oo, none⟩) (n + 12) (n + 12) from d22] at q45
              have q46 : a'.tmps[46]? = some (us 23) := by rw [ha.out]; kernel_rfl
              rw [show us 23 = .int .i64 (k : Int) from d23] at q46
              refine step_value (v := .pointer (some ⟨o, oo + k * 2, none⟩)) (w2 := w3) ?_ (hK _ _ (Grow.refl _) rfl)
              go_simp
              (try (intro h; omega))
            · refine stageOf_free rfl (fun us vals w3 a' ha hd => ?_) ?_
              · obtain ⟨_, d21, _⟩ := hd
                have q : a'.tmps[44]? = some (us 21) := by rw [ha.out]; kernel_rfl
                rw [show us 21 = .bool true from d21] at q
                exact wanted_some rfl rfl q
              intro us vals w3 a' ha hle hW hd hv K hK
              obtain ⟨d24, _, _⟩ := hd
              have q47 : a'.tmps[47]? = some (us 24) := by rw [ha.out]; kernel_rfl
              rw [show us 24 = .pointer (some ⟨o, oo + k * 2, none⟩) from d24] at q47
              exact wp_load_mid 45 (.tmp 47) rfl o (oo + k * 2) (eval_tmp q47) _ _ (fun j v hj => (hle.toGrow.cell (p := ⟨o, oo + k * 2 + j, none⟩) hz1).trans (Hm1.out j v hj)) Tryz.underlying45 rfl (by kernel_rfl) (hK _ _ (Grow.refl _) rfl)
            · refine stageOf_free rfl (fun us vals w3 a' ha hd => ?_) ?_
              · obtain ⟨d21, _⟩ := hd
                have q : a'.tmps[44]? = some (us 21) := by rw [ha.out]; kernel_rfl
                rw [show us 21 = .bool true from d21] at q
                exact wanted_some rfl rfl q
              intro us vals w3 a' ha hle hW hd hv K hK
              have q6 : a'.tmps[6]? = some (.int .i64 (k : Int)) := by rw [ha.out]; kernel_rfl
              exact step_value (w2 := w3) (by go_simp) (hK _ _ (Grow.refl _) rfl)
            · refine stageOf_free rfl (fun us vals w3 a' ha hd => ?_) ?_
              · obtain ⟨d21, _⟩ := hd
                have q : a'.tmps[44]? = some (us 21) := by rw [ha.out]; kernel_rfl
                rw [show us 21 = .bool true from d21] at q
                exact wanted_some rfl rfl q
              intro us vals w3 a' ha hle hW hd hv K hK
              have q1 : a'.tmps[1]? = some (.slice A n c) := by rw [ha.out]; kernel_rfl
              exact step_value (w2 := w3) (by go_simp) (hK _ _ (Grow.refl _) rfl)
            · refine stageOf_free rfl (fun us vals w3 a' ha hd => ?_) ?_
              · obtain ⟨_, d21, _⟩ := hd
                have q : a'.tmps[44]? = some (us 21) := by rw [ha.out]; kernel_rfl
                rw [show us 21 = .bool true from d21] at q
                exact wanted_some rfl rfl q
              intro us vals w3 a' ha hle hW hd hv K hK
              obtain ⟨d27, _, _⟩ := hd
              have q50 : a'.tmps[50]? = some (us 27) := by rw [ha.out]; kernel_rfl
              rw [show us 27 = .slice A n c from d27] at q50
              refine step_value (v := .int .i64 (n : Int)) (w2 := w3) ?_ (hK _ _ (Grow.refl _) rfl)
              go_simp
            · refine stageOf_free rfl (fun us vals w3 a' ha hd => ?_) ?_
              · obtain ⟨_, _, d21, _⟩ := hd
                have q : a'.tmps[44]? = some (us 21) := by rw [ha.out]; kernel_rfl
                rw [show us 21 = .bool true from d21] at q
                exact wanted_some rfl rfl q
              intro us vals w3 a' ha hle hW hd hv K hK
              obtain ⟨d26, d28, _, _⟩ := hd
              have q49 : a'.tmps[49]? = some (us 26) := by rw [ha.out]; kernel_rfl
              rw [show us 26 = .int .i64 (k : Int) from d26] at q49
              have q51 : a'.tmps[51]? = some (us 28) := by rw [ha.out]; kernel_rfl
              rw [show us 28 = .int .i64 (n : Int) from d28] at q51
              refine step_value (v := .int .i64 ((k : Int) - (n : Int))) (w2 := w3) ?_ (hK _ _ (Grow.refl _) rfl)
              go_simp
            · refine stageOf_mem (t := 0) rfl ?_
              intro us vals w3 a' ha hle hW hd hv
              obtain ⟨d29, d21, _, _⟩ := hd
              obtain rfl := List.eq_nil_of_length_eq_zero (Nat.le_zero.1 (show vals.length ≤ 0 from Nat.le_of_eq hv))
              have qg : a'.tmps[44]? = some (us 21) := by rw [ha.out]; kernel_rfl
              rw [show us 21 = .bool true from d21] at qg
              refine ⟨wanted_some rfl rfl qg, fun K hK => ?_⟩
              have q52 : a'.tmps[52]? = some (us 29) := by rw [ha.out]; kernel_rfl
              rw [show us 29 = .int .i64 ((k : Int) - (n : Int)) from d29] at q52
              refine step_call (f := 24) (args := #[.int .i64 1, .int .i64 ((k : Int) - (n : Int))]) (by go_simp) ?_
              refine (Hmk.out w3).mono ?_
              rintro e w4 ⟨m, rfl, -, hm2, hg4⟩
              exact ⟨_, rfl, hK _ _ (Keep.grow hg4) ⟨m, rfl, hm2⟩⟩
            · refine stageOf_free rfl (fun us vals w3 a' ha hd => ?_) ?_
              · obtain ⟨_, _, _, d21, _⟩ := hd
                have q : a'.tmps[44]? = some (us 21) := by rw [ha.out]; kernel_rfl
                rw [show us 21 = .bool true from d21] at q
                exact wanted_some rfl rfl q
              intro us vals w3 a' ha hle hW hd hv K hK
              obtain ⟨d25, d30, _, _, _⟩ := hd
              have q48 : a'.tmps[48]? = some (us 25) := by rw [ha.out]; kernel_rfl
              rw [show us 25 = .agg #[.int .u8 0, .slice (some ⟨g, 0, none⟩) 1 1] from d25] at q48
              have q53 : a'.tmps[53]? = some (us 30) := by rw [ha.out]; kernel_rfl
              obtain ⟨m, hx, hbm⟩ := mkW.get hW d30
              rw [hx] at q53
              refine step_call (f := 34) (args := #[.agg #[.int .u8 0, .slice (some ⟨g, 0, none⟩) 1 1], .agg #[.int .u8 0, .slice (some ⟨m, 0, none⟩) 1 1]]) (by go_simp) ?_
              refine (Hsp.out w3 m hle.toGrow hbm).mono ?_
              rintro e w4 ⟨rfl, hg4⟩
              exact ⟨_, rfl, hK _ _ hg4 rfl⟩
            · refine stageOf_free rfl (fun us vals w3 a' ha hd => ?_) ?_
              · obtain ⟨_, d21, _⟩ := hd
                have q : a'.tmps[44]? = some (us 21) := by rw [ha.out]; kernel_rfl
                rw [show us 21 = .bool true from d21] at q
                exact wanted_some rfl rfl q
              intro us vals w3 a' ha hle hW hd hv K hK
              obtain ⟨d31, _, _⟩ := hd
              have q54 : a'.tmps[54]? = some (us 31) := by rw [ha.out]; kernel_rfl
              rw [show us 31 = .bool true from d31] at q54
              refine step_value (v := .bool false) (w2 := w3) ?_ (hK _ _ (Grow.refl _) rfl)
              go_simp
            · refine stageOf_free rfl (fun us vals w3 a' ha hd => ?_) ?_
              · obtain ⟨_, _, d16, _⟩ := hd
                have q : a'.tmps[39]? = some (us 16) := by rw [ha.out]; kernel_rfl
                rw [show us 16 = .bool false from d16] at q
                exact wanted_some rfl rfl q
              intro us vals w3 a' ha hle hW hd hv K hK
              obtain ⟨d21, d32, _, _⟩ := hd
              have q44 : a'.tmps[44]? = some (us 21) := by rw [ha.out]; kernel_rfl
              rw [show us 21 = .bool true from d21] at q44
              have q55 : a'.tmps[55]? = some (us 32) := by rw [ha.out]; kernel_rfl
              rw [show us 32 = .bool false from d32] at q55
              refine step_value (v := .bool false) (w2 := w3) ?_ (hK _ _ (Grow.refl _) rfl)
              go_simp
            · refine stageOf_free rfl (fun _ _ _ _ _ _ => wanted_none rfl) ?_
              intro us vals w3 a' ha hle hW hd hv K hK
              obtain ⟨d16, d33, _⟩ := hd
              have q39 : a'.tmps[39]? = some (us 16) := by rw [ha.out]; kernel_rfl
              rw [show us 16 = .bool false from d16] at q39
              have q56 : a'.tmps[56]? = some (us 33) := by rw [ha.out]; kernel_rfl
              rw [show us 33 = .bool false from d33] at q56
              refine step_value (v := .bool false) (w2 := w3) ?_ (hK _ _ (Grow.refl _) rfl)
              go_simp
          · intro us vals w3 hle hvl _ _ hf
            have h34 : us 34 = .bool false := hf 34 (by decide) rfl
            exact hMx _ _ (Met.intro (hJx _ _ ⟨us 0, us 1, us 2, us 3, us 4, us 5, us 6, us 7, us 8, us 9, us 10, us 11, us 12, us 13, us 14, us 15, us 16, us 17, us 18, us 19, us 20, us 21, us 22, us 23, us 24, us 25, us 26, us 27, us 28, us 29, us 30, us 31, us 32, us 33, us 34, ⟨h34, hle.toGrow⟩, by kernel_rfl⟩))
        case rest =>
          obtain ⟨rfl, hgx⟩ := hcut
          have HG := Lib.hid (hg.out.trans hgx)
          clear hgx hg
          go_wp2
          go_roundw
          case rel => exact ⟨k + 1, by omega, by go_num, HG⟩
          case measure => simp [intOf]; omega
    · obtain rfl : k = n + 12 := by omega
      go_wp2
      go_ret
      exact ⟨rfl, hg.out⟩
end Go.Proofs.YtbbjeokecgnfpaaGreat
