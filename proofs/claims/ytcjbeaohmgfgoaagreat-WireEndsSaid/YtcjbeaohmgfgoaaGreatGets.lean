/-
  The walk of mudlarklaw02's gets: a reader and the document's tell the same of any bytes; the bytes stay.
-/
import Derived.Deep.DeepCutAuto
import Derived.Deep.CutRange
import Derived.Deep.CutBlock
import Derived.Test.YtcjbeaohmgfgoaaGreatDRising
import Derived.Test.YtcjbeaohmgfgoaaGreatRRising
import Derived.Test.YtcjbeaohmgfgoaaGreatPutKit
import Derived.Test.YtcjbeaohmgfgoaaGreatLent
namespace Go.Proofs.YtcjbeaohmgfgoaaGreat
open Go.RowKit WireM

/-- a reader and the document's, side by side; what was lent -/
structure Duet (w0 : World) (gI gR gD : Nat) (A : Option Addr) (n c : Nat) (b : List UInt8) (len : Nat) (st st2 : St) (w : World) : Prop where
  rd : ∃ A' n' c' l bad, Rd w gR A' n' c' l bad ∧ stOf l bad = st ∧ l.length ≤ len
  dd : ∃ at_ bad, Rdd w gD A n c b at_ bad ∧ ddSt b at_ bad = st2
  lent : LentAt w gI b
  below : Below w0.heap.size w0 w
  old : w0.heap.size ≤ gI
  i1 : gI < gR
  i2 : gR < gD
  low : 0 < n → ∀ ad, A = some ad → ad.block < w0.heap.size
section
variable {w0 w w1 : World} {gI gR gD : Nat} {A : Option Addr} {n c len : Nat} {b : List UInt8} {st st2 st' : St}
theorem Duet.grow (h : Duet w0 gI gR gD A n c b len st st2 w) (hg : Grow w w1) : Duet w0 gI gR gD A n c b len st st2 w1 := by
  obtain ⟨⟨A', n', c', l, bad, h1, h2, h3⟩, ⟨at_, bad2, h4, h5⟩, h6, h7, h8, h9, h10, h11⟩ := h
  exact ⟨⟨A', n', c', l, bad, h1.grow hg, h2, h3⟩, ⟨at_, bad2, h4.grow hg, h5⟩, h6.below hg h6.lt, Below.trans h7 (hg.mono h7.size), h8, h9, h10, h11⟩
theorem Duet.left (h : Duet w0 gI gR gD A n c b len st st2 w) {len' : Nat} (hl : len' ≤ len) (hr : RdAt w gR st' len' w1) : Duet w0 gI gR gD A n c b len st' st2 w1 := by
  obtain ⟨-, ⟨at_, bad2, h4, h5⟩, h6, h7, h8, h9, h10, h11⟩ := h
  obtain ⟨A', n', c', l, bad, h1, h2, h3, hk⟩ := hr
  refine ⟨⟨A', n', c', l, bad, h1, h2, by omega⟩, ⟨at_, bad2, h4.kept hk (fun e => by have e' : gD = gR := e; omega) (fun h0 ad e e2 => by have e' : ad.block = gR := e2; have := h11 h0 ad e; omega), h5⟩, hk.blk h6 (fun e => by have e' : gI = gR := e; omega), Below.trans h7 (hk.below (fun q hq => by rw [show q = gR from hq]; omega) h7.size), h8, h9, h10, h11⟩
theorem Duet.right (h : Duet w0 gI gR gD A n c b len st st2 w) (hd : RddAt w gD A n c b st' w1) : Duet w0 gI gR gD A n c b len st st' w1 := by
  obtain ⟨⟨A', n', c', l, bad, h1, h2, h3⟩, -, h6, h7, h8, h9, h10, h11⟩ := h
  obtain ⟨at_, bad2, h4, h5, hk⟩ := hd
  refine ⟨⟨A', n', c', l, bad, h1.kept hk (fun e => by have e' : gR = gD := e; omega) (fun ad e e2 => by have e' : ad.block = gD := e2; have := h1.apart ad e; omega), h2, h3⟩, ⟨at_, bad2, h4, h5⟩, hk.blk h6 (fun e => by have e' : gI = gD := e; omega), Below.trans h7 (hk.below (fun q hq => by rw [show q = gD from hq]; omega) h7.size), h8, h9, h10, h11⟩
end
/-- what the two readers may turn -/
def TwoG (gR gD : Nat) : Nat → Prop := fun k => k = gR ∨ k = gD
theorem RdAt.keep {w w1 : World} {g len : Nat} {st : St} (h : RdAt w g st len w1) : Keep (Own1 g) w w1 := by
  obtain ⟨_, _, _, _, _, _, _, _, hk⟩ := h
  exact hk
theorem RddAt.keep {w w1 : World} {g n c : Nat} {A : Option Addr} {b : List UInt8} {st : St} (h : RddAt w g A n c b st w1) : Keep (Own1 g) w w1 := by
  obtain ⟨_, _, _, _, hk⟩ := h
  exact hk
/-- an answer that is a row of its own -/
def vRow (B : Nat) (t : TypeId) (xs : List Value) : Value → World → Prop := fun x w => w.ownsRow B t 1 x xs.length xs
def vIs (v : Value) : Value → World → Prop := fun x _ => x = v
theorem vRow.grow {B : Nat} {t : TypeId} {xs : List Value} : ∀ x w w2, Grow w w2 → vRow B t xs x w → vRow B t xs x w2 := fun _ _ _ hg h => own_below h hg
theorem vIs.grow {v : Value} : ∀ x w w2, Grow w w2 → vIs v x w → vIs v x w2 := fun _ _ _ _ h => h
theorem vRow.keep {B g : Nat} (hB : g < B) {t : TypeId} {xs : List Value} {x : Value} {w w2 : World} (hk : Keep (Own1 g) w w2) (h : vRow B t xs x w) : vRow B t xs x w2 :=
  hk.own h fun k hk2 hk3 => by
    have h1 := (World.ownsRow.lt h k hk2).1
    have e : k = g := hk3
    omega
/-- two calls, of a reader and of the document's -/
def dW (w0 : World) (gI gR gD : Nat) (A : Option Addr) (n c : Nat) (b : List UInt8) (len : Nat) (st st' : St) (W0 : World) (V : Value → World → Prop) : List Value → World → Prop
  | [], w => Duet w0 gI gR gD A n c b len st st w ∧ Keep (TwoG gR gD) W0 w
  | [x], w => Duet w0 gI gR gD A n c b len st' st w ∧ Keep (TwoG gR gD) W0 w ∧ V x w
  | [x, y], w => Duet w0 gI gR gD A n c b len st' st' w ∧ Keep (TwoG gR gD) W0 w ∧ V x w ∧ V y w
  | _, _ => False
theorem dW.grow {w0 : World} {gI gR gD : Nat} {A : Option Addr} {n c : Nat} {b : List UInt8} {len : Nat} {st st' : St} {W0 : World} {V : Value → World → Prop} (hV : ∀ x w w2, Grow w w2 → V x w → V x w2) : ∀ (vals : List Value) (w w2 : World), Grow w w2 → dW w0 gI gR gD A n c b len st st' W0 V vals w → dW w0 gI gR gD A n c b len st st' W0 V vals w2
  | [], _, _, hg, h => ⟨h.1.grow hg, h.2.trans' (Keep.grow hg)⟩
  | [_], _, _, hg, h => ⟨h.1.grow hg, h.2.1.trans' (Keep.grow hg), hV _ _ _ hg h.2.2⟩
  | [_, _], _, _, hg, h => ⟨h.1.grow hg, h.2.1.trans' (Keep.grow hg), hV _ _ _ hg h.2.2.1, hV _ _ _ hg h.2.2.2⟩
  | _ :: _ :: _ :: _, _, _, _, h => h
theorem dW.val {w0 : World} {gI gR gD : Nat} {A : Option Addr} {n c : Nat} {b : List UInt8} {len : Nat} {st st' : St} {W0 w : World} {V : Value → World → Prop} : ∀ {vals : List Value} {u u2 : Value}, dW w0 gI gR gD A n c b len st st' W0 V vals w → vals[0]? = some u → vals[1]? = some u2 → V u w ∧ V u2 w
  | [], _, _, _, e, _ => by cases e
  | [_], _, _, _, _, e => by cases e
  | [_, _], _, _, h, e, e2 => by cases e; cases e2; exact h.2.2
  | _ :: _ :: _ :: _, _, _, h, _, _ => h.elim

set_option maxRecDepth 100000 in
set_option maxHeartbeats 8000000 in
theorem gets_any (w : World) (A A2 : Option Addr) (n c m c2 : Nat) (b : List UInt8) (ts : List ThingM) (hR : BytesAt w w.heap.size A n b) (hn : n ≤ 2000000) (hnc : n ≤ c) (hc : c ≤ maxLen) (hT : ThingsAt w w.heap.size A2 m ts) (hm : m ≤ 1954687338269) :
    Calls Tryz.prog 8 #[.slice A n c, .slice A2 m c2] w fun e w' => e = .returned (.bool true) ∧ Grow w w' := by
  unfold maxLen at hc
  have Hlen := Lib.hid hT.len
  have hblen := hR.len
  go_enter Tryz.func8, Tryz.ntmps8
  go_wp2_with fail
  refine (LentBytes_any w w.heap.size A n c b hR (Nat.le_refl _) (by omega)).mono ?_
  rintro e w1 ⟨rfl, hL1, hg1⟩
  go_wp2_with fail
  have hRl := LentAt.bytes hL1 hL1.lt
  rw [hblen] at hRl
  refine (Read_any w1 w1.heap.size _ n (n + 12) b hRl (Nat.le_refl _) (by omega)).mono ?_
  rintro e w2 ⟨gR, A3, c3, rfl, hz2, hd2, hg2⟩
  have hgR := hd2.cell.lt
  have hD0 : Duet w w.heap.size gR w2.heap.size A n c b n (some b) (some b) (w2.alloc (.cells #[.slice A n c, .int .i64 0, .bool false] 76)) :=
    ⟨⟨A3, n, c3, b, false, hd2.grow (Grow.alloc _ _), rfl, by omega⟩,
     ⟨0, false, ⟨Blk.new _ _ _, ReadsAt.more ((hR.below (Below.trans hg1 (hg2.mono hg1.size))).below ((Grow.alloc w2 _).mono (Below.trans hg1 (hg2.mono hg1.size)).size)) (by have := (Below.trans hg1 (hg2.mono hg1.size)).size; simp; omega), (fun h0 ad e => by have h1 := bytes_lt hR h0 ad e; have h2 := (Below.trans hg1 (hg2.mono hg1.size)).size; omega), hnc, by unfold maxLen; omega, Nat.zero_le _⟩, by show some (b.drop 0) = _; rw [List.drop_zero]⟩,
     Blk.alloc (Blk.below hL1 hg2 hL1.lt) _, (Below.trans hg1 (hg2.mono hg1.size)).trans ((Grow.alloc w2 _).mono (Below.trans hg1 (hg2.mono hg1.size)).size), Nat.le_refl _, by have := hL1.lt; omega, hgR, bytes_lt hR⟩
  have HD0 := Lib.hid hD0
  clear hD0 hd2 hL1 hRl hg1 hg2 hz2
  go_wp2_with fail
  obtain ⟨gD, hgD⟩ : ∃ gD, gD = w2.heap.size := ⟨_, rfl⟩
  rw [← hgD] at HD0 ⊢
  have hRD : gR < gD := by omega
  clear hgD hgR
  go_loopw [8] (fun v8 wr => ∃ (i : Nat) (st : St), i ≤ m ∧ v8 = .int .i64 (i : Int) ∧ Hid (Duet w w.heap.size gR gD A n c b n st st wr)) (fun v8 _ => m - (intOf v8).toNat)
  case atStart => exact ⟨0, _, by omega, rfl, HD0.out⟩
  case round =>
    clear HD0
    obtain ⟨i, st, hi, rfl, hD⟩ := hrel
    have hbw := hD.out.below
    have hbz := hbw.size
    by_cases hlt : i < m
    · obtain ⟨t, ht⟩ : ∃ t, ts[i]? = some t := ⟨_, List.getElem?_eq_getElem (by rw [Hlen.out]; exact hlt)⟩
      have hTr := hT.below hbw
      obtain ⟨b0, off, A1, n1, c1, A4, n4, c4, rfl, hb, hc0, hc1, hc2, -, -, hcs, -, -⟩ := hTr.at_ ht
      obtain ⟨A1', n1', c1', A3', n3', c3', he, hki, -, -, -, -, -⟩ := hcs
      have hgRw : w.heap.size < gR := by have h1 := hD.out.i1; have h2 := hD.out.old; omega
      have hbf : ¬ TwoG gR gD b0 := fun h => by rcases h with h | h <;> omega
      have hzb : b0 < wr.heap.size := Nat.lt_of_lt_of_le hb hbz
      have hgDl : gD < wr.heap.size := by
        obtain ⟨at_, bad, h1, _⟩ := hD.out.dd
        exact h1.cell.lt
      have hp0 := pickI_nonneg t.kind 4
      have hp4 := pickI_lt t.kind 4 (by omega)
      have hp : pickI t.kind 4 = 0 ∨ pickI t.kind 4 = 1 ∨ pickI t.kind 4 = 2 ∨ pickI t.kind 4 = 3 := by omega
      have hDo := hD.out
      clear hp0 hp4 ht hTr he hD
      rcases hp with hp | hp | hp | hp
      · obtain ⟨M, hM⟩ : ∃ M, num t.n st = M := ⟨_, rfl⟩
        have HM := Lib.hid hM
        have Hp := Lib.hid hp
        clear hM hp
        go_upto_region 11 with (go_at_call 38; refine (Pick_is t.kind 4 0 _ Hp.out hki.1 hki.2 (by omega)).mono ?_; rintro e w8 ⟨rfl, rfl⟩)
        go_cut [70] from 56 to 70 (fun vx wx => vx = .bool false ∧ Duet w w.heap.size gR gD A n c b n M.2 M.2 wx)
        case first Jx Kx hJx hMx =>
          refine wp_region_stages (by kernel_rfl) ?_
          refine anyOrder_start [6, 13] (Keep (TwoG gR gD)) (dW w w.heap.size gR gD A n c b n st M.2 wr (vIs (.int .i64 (M.1 : Nat)))) (FactsOn [.is (.pointer (some ⟨gR, 0, none⟩)), .is (.slice (some ⟨b0, off, none⟩) m c2), .is (.int .i64 (i : Int)), .is (.pointer (some ⟨b0, off + i * 5, none⟩)), .is (.pointer (some ⟨b0, off + i * 5 + 1, none⟩)), .is (.int .i64 t.n), .any, .is (.pointer (some ⟨gD, 0, none⟩)), .is (.slice (some ⟨b0, off, none⟩) m c2), .is (.int .i64 (i : Int)), .is (.pointer (some ⟨b0, off + i * 5, none⟩)), .is (.pointer (some ⟨b0, off + i * 5 + 1, none⟩)), .is (.int .i64 t.n), .any, .is (.bool false)]) (fun i => 99) keep_trans keep_grow (dW.grow vIs.grow) (factsOn_mono _) (by kernel_rfl) (by kernel_rfl) ⟨hDo, Keep.refl _ _⟩ ?_ ?_
          · refine ⟨?_, ?_, ?_, ?_, ?_, ?_, ?_, ?_, ?_, ?_, ?_, ?_, ?_, ?_, ?_, trivial⟩
            · refine stageOf_free rfl (fun _ _ _ _ _ _ => wanted_none rfl) ?_
              intro us vals w3 a' ha hle hW hd hv K hK
              have q6 : a'.tmps[6]? = some (.pointer (some ⟨gR, 0, none⟩)) := by rw [ha.out]; kernel_rfl
              exact step_value (w2 := w3) (by go_simp) (hK _ _ (Grow.refl _) rfl)
            · refine stageOf_free rfl (fun _ _ _ _ _ _ => wanted_none rfl) ?_
              intro us vals w3 a' ha hle hW hd hv K hK
              have q1 : a'.tmps[1]? = some (.slice (some ⟨b0, off, none⟩) m c2) := by rw [ha.out]; kernel_rfl
              exact step_value (w2 := w3) (by go_simp) (hK _ _ (Grow.refl _) rfl)
            · refine stageOf_free rfl (fun _ _ _ _ _ _ => wanted_none rfl) ?_
              intro us vals w3 a' ha hle hW hd hv K hK
              have q8 : a'.tmps[8]? = some (.int .i64 (i : Int)) := by rw [ha.out]; kernel_rfl
              exact step_value (w2 := w3) (by go_simp) (hK _ _ (Grow.refl _) rfl)
            · refine stageOf_free rfl (fun _ _ _ _ _ _ => wanted_none rfl) ?_
              intro us vals w3 a' ha hle hW hd hv K hK
              obtain ⟨d1, d2, _⟩ := hd
              have q57 : a'.tmps[57]? = some (us 1) := by rw [ha.out]; kernel_rfl
              rw [show us 1 = .slice (some ⟨b0, off, none⟩) m c2 from d1] at q57
              have q58 : a'.tmps[58]? = some (us 2) := by rw [ha.out]; kernel_rfl
              rw [show us 2 = .int .i64 (i : Int) from d2] at q58
              refine step_value (v := .pointer (some ⟨b0, off + i * 5, none⟩)) (w2 := w3) ?_ (hK _ _ (Grow.refl _) rfl)
              go_simp
              (try (intro h; omega))
            · refine stageOf_free rfl (fun _ _ _ _ _ _ => wanted_none rfl) ?_
              intro us vals w3 a' ha hle hW hd hv K hK
              obtain ⟨d3, _⟩ := hd
              have q59 : a'.tmps[59]? = some (us 3) := by rw [ha.out]; kernel_rfl
              rw [show us 3 = .pointer (some ⟨b0, off + i * 5, none⟩) from d3] at q59
              refine step_value (v := .pointer (some ⟨b0, off + i * 5 + 1, none⟩)) (w2 := w3) ?_ (hK _ _ (Grow.refl _) rfl)
              go_simp
            · refine stageOf_free rfl (fun _ _ _ _ _ _ => wanted_none rfl) ?_
              intro us vals w3 a' ha hle hW hd hv K hK
              obtain ⟨d4, _⟩ := hd
              have q60 : a'.tmps[60]? = some (us 4) := by rw [ha.out]; kernel_rfl
              rw [show us 4 = .pointer (some ⟨b0, off + i * 5 + 1, none⟩) from d4] at q60
              have hc : w3.cell? ⟨b0, off + i * 5 + 1, none⟩ = some (.int .i64 t.n) := (hle.cell (p := ⟨b0, off + i * 5 + 1, none⟩) hzb hbf).trans hc1
              refine step_value (v := .int .i64 t.n) (w2 := w3) ?_ (hK _ _ (Grow.refl _) rfl)
              go_simp
            · refine stageOf_mem (t := 0) rfl ?_
              intro us vals w3 a' ha hle hW hd hv
              obtain ⟨d0, d5, _⟩ := hd
              obtain rfl := List.eq_nil_of_length_eq_zero (Nat.le_zero.1 (show vals.length ≤ 0 from Nat.le_of_eq hv))
              refine ⟨wanted_none rfl, fun K hK => ?_⟩
              have q56 : a'.tmps[56]? = some (us 0) := by rw [ha.out]; kernel_rfl
              rw [show us 0 = .pointer (some ⟨gR, 0, none⟩) from d0] at q56
              have q61 : a'.tmps[61]? = some (us 5) := by rw [ha.out]; kernel_rfl
              rw [show us 5 = .int .i64 t.n from d5] at q61
              obtain ⟨A6, n6, c6, l6, bad6, h6, hs6, hl6⟩ := hW.1.rd
              refine step_call (f := 14) (args := #[.pointer (some ⟨gR, 0, none⟩), .int .i64 t.n]) (by go_simp) ?_
              have hn := RNumber_any w3 gR A6 n6 c6 l6 bad6 t.n h6
              rw [hs6, HM.out] at hn
              refine hn.mono ?_
              rintro e w4 ⟨rfl, hR4⟩
              exact ⟨_, rfl, hK _ _ (hR4.keep.mono fun q hq => Or.inl (Or.inl hq)) ⟨hW.1.left hl6 hR4, hW.2.trans' (hR4.keep.mono fun q hq => Or.inl (Or.inl hq)), rfl⟩⟩
            · refine stageOf_free rfl (fun _ _ _ _ _ _ => wanted_none rfl) ?_
              intro us vals w3 a' ha hle hW hd hv K hK
              have q7 : a'.tmps[7]? = some (.pointer (some ⟨gD, 0, none⟩)) := by rw [ha.out]; kernel_rfl
              exact step_value (w2 := w3) (by go_simp) (hK _ _ (Grow.refl _) rfl)
            · refine stageOf_free rfl (fun _ _ _ _ _ _ => wanted_none rfl) ?_
              intro us vals w3 a' ha hle hW hd hv K hK
              have q1 : a'.tmps[1]? = some (.slice (some ⟨b0, off, none⟩) m c2) := by rw [ha.out]; kernel_rfl
              exact step_value (w2 := w3) (by go_simp) (hK _ _ (Grow.refl _) rfl)
            · refine stageOf_free rfl (fun _ _ _ _ _ _ => wanted_none rfl) ?_
              intro us vals w3 a' ha hle hW hd hv K hK
              have q8 : a'.tmps[8]? = some (.int .i64 (i : Int)) := by rw [ha.out]; kernel_rfl
              exact step_value (w2 := w3) (by go_simp) (hK _ _ (Grow.refl _) rfl)
            · refine stageOf_free rfl (fun _ _ _ _ _ _ => wanted_none rfl) ?_
              intro us vals w3 a' ha hle hW hd hv K hK
              obtain ⟨d8, d9, _⟩ := hd
              have q64 : a'.tmps[64]? = some (us 8) := by rw [ha.out]; kernel_rfl
              rw [show us 8 = .slice (some ⟨b0, off, none⟩) m c2 from d8] at q64
              have q65 : a'.tmps[65]? = some (us 9) := by rw [ha.out]; kernel_rfl
              rw [show us 9 = .int .i64 (i : Int) from d9] at q65
              refine step_value (v := .pointer (some ⟨b0, off + i * 5, none⟩)) (w2 := w3) ?_ (hK _ _ (Grow.refl _) rfl)
              go_simp
              (try (intro h; omega))
            · refine stageOf_free rfl (fun _ _ _ _ _ _ => wanted_none rfl) ?_
              intro us vals w3 a' ha hle hW hd hv K hK
              obtain ⟨d10, _⟩ := hd
              have q66 : a'.tmps[66]? = some (us 10) := by rw [ha.out]; kernel_rfl
              rw [show us 10 = .pointer (some ⟨b0, off + i * 5, none⟩) from d10] at q66
              refine step_value (v := .pointer (some ⟨b0, off + i * 5 + 1, none⟩)) (w2 := w3) ?_ (hK _ _ (Grow.refl _) rfl)
              go_simp
            · refine stageOf_free rfl (fun _ _ _ _ _ _ => wanted_none rfl) ?_
              intro us vals w3 a' ha hle hW hd hv K hK
              obtain ⟨d11, _⟩ := hd
              have q67 : a'.tmps[67]? = some (us 11) := by rw [ha.out]; kernel_rfl
              rw [show us 11 = .pointer (some ⟨b0, off + i * 5 + 1, none⟩) from d11] at q67
              have hc : w3.cell? ⟨b0, off + i * 5 + 1, none⟩ = some (.int .i64 t.n) := (hle.cell (p := ⟨b0, off + i * 5 + 1, none⟩) hzb hbf).trans hc1
              refine step_value (v := .int .i64 t.n) (w2 := w3) ?_ (hK _ _ (Grow.refl _) rfl)
              go_simp
            · refine stageOf_mem (t := 1) rfl ?_
              intro us vals w3 a' ha hle hW hd hv
              obtain ⟨d7, d12, _, _⟩ := hd
              obtain ⟨x0, rfl⟩ := List.length_eq_one_iff.1 hv
              refine ⟨wanted_none rfl, fun K hK => ?_⟩
              have q63 : a'.tmps[63]? = some (us 7) := by rw [ha.out]; kernel_rfl
              rw [show us 7 = .pointer (some ⟨gD, 0, none⟩) from d7] at q63
              have q68 : a'.tmps[68]? = some (us 12) := by rw [ha.out]; kernel_rfl
              rw [show us 12 = .int .i64 t.n from d12] at q68
              obtain ⟨at6, bad6, h6, hs6⟩ := hW.1.dd
              refine step_call (f := 46) (args := #[.pointer (some ⟨gD, 0, none⟩), .int .i64 t.n]) (by go_simp) ?_
              have hn := dNumber_any w3 gD A n c b at6 bad6 t.n h6
              rw [hs6, HM.out] at hn
              refine hn.mono ?_
              rintro e w4 ⟨rfl, hR4⟩
              exact ⟨_, rfl, hK _ _ (hR4.keep.mono fun q hq => Or.inl (Or.inr hq)) ⟨hW.1.right hR4, hW.2.1.trans' (hR4.keep.mono fun q hq => Or.inl (Or.inr hq)), hW.2.2, rfl⟩⟩
            · refine stageOf_free rfl (fun _ _ _ _ _ _ => wanted_none rfl) ?_
              intro us vals w3 a' ha hle hW hd hv K hK
              obtain ⟨d6, d13, _⟩ := hd
              have q62 : a'.tmps[62]? = some (us 6) := by rw [ha.out]; kernel_rfl
              have q69 : a'.tmps[69]? = some (us 13) := by rw [ha.out]; kernel_rfl
              obtain ⟨e1, e2⟩ := dW.val hW d6 d13
              have e1' : us 6 = .int .i64 (M.1 : Nat) := e1
              have e2' : us 13 = .int .i64 (M.1 : Nat) := e2
              rw [e1'] at q62
              rw [e2'] at q69
              refine step_value (v := .bool false) (w2 := w3) ?_ (hK _ _ (Grow.refl _) rfl)
              go_simp
          · intro us vals w3 hle hvl hV _ hfa
            obtain ⟨x1, x2, rfl⟩ : ∃ x1 x2, vals = [x1, x2] := by match vals, hvl with | [x1, x2], _ => exact ⟨x1, x2, rfl⟩
            have h9 : us 14 = .bool false := hfa 14 (by decide) rfl
            exact hMx _ _ (Met.intro (hJx _ _ ⟨us 0, us 1, us 2, us 3, us 4, us 5, us 6, us 7, us 8, us 9, us 10, us 11, us 12, us 13, us 14, ⟨h9, hV.1⟩, by kernel_rfl⟩))
        case rest =>
          obtain ⟨rfl, hDx⟩ := hcut
          obtain ⟨A7, n7, c7, l7, bad7, hr7, hs7, hl7⟩ := hDx.rd
          obtain ⟨at8, bad8, hd8, hs8⟩ := hDx.dd
          have hbb : bad7 = bad8 := by
            have h := hs7.trans hs8.symm
            cases bad7 <;> cases bad8 <;> first | rfl | cases h
          subst hbb
          have hc9 := hd8.cell.cell 2
          have hRL := fun q => RLeft_any (wc.drewN q) gR A7 n7 c7 l7 bad7 (hr7.grow (Grow.drewN wc q))
          have hDL := fun q => dLeft_any (wc.drewN q) gD A n c b at8 bad7 (hd8.grow (Grow.drewN wc q))
          have hOK := fun q => ROK_any (wc.drewN q) gR A7 n7 c7 l7 bad7 (hr7.grow (Grow.drewN wc q))
          simp only [hs7] at hRL
          simp only [hs8] at hDL
          obtain ⟨lf, hlf⟩ : ∃ lf, lf = left M.2 := ⟨_, rfl⟩
          rw [← hlf] at hRL hDL
          have HRL := Lib.hid hRL
          have HDL := Lib.hid hDL
          have HOK := Lib.hid hOK
          have HDx := Lib.hid hDx
          clear hRL hDL hOK hlf hr7 hd8 hs7 hs8 hDx
          have hll : ((lf : Int) == (lf : Int)) = true := by simp
          have hne : ((lf : Int) != (lf : Int)) = false := by simp
          cases bad7
          all_goals
            go_wp2_with fail
            go_quiet ((first | (go_at_call 18; exact quiet_left (HRL.out _)) | (go_at_call 51; exact quiet_drew (HDL.out _)) | (go_at_call 19; exact quiet_left (HOK.out _))))
            go_wp2
            go_roundw
            case rel => exact ⟨i + 1, M.2, by omega, by go_num, HDx.out.grow (Grow.drewN _ _)⟩
            case measure => simp [intOf]; omega
      · obtain ⟨M, hM⟩ : ∃ M, fixed st = M := ⟨_, rfl⟩
        have HM := Lib.hid hM
        have Hp := Lib.hid hp
        obtain ⟨A6, n6, c6, l6, bad6, h6, hs6, hl6⟩ := hDo.rd
        have hn := RFixed_any wr gR A6 n6 c6 l6 bad6 h6
        rw [hs6, hM] at hn
        have Hn := Lib.hid hn
        have hD1 := hDo
        clear hM hp hn h6 hs6
        go_wp2_with (first | (go_at_call 38; refine (Pick_is t.kind 4 1 _ Hp.out hki.1 hki.2 (by omega)).mono ?_; rintro e w8 ⟨rfl, rfl⟩) | (go_at_call 15; refine Hn.out.mono ?_; rintro e w4 ⟨rfl, hR4⟩))
        have hD4 := hDo.left hl6 hR4
        obtain ⟨at6, bad7, h7, hs7⟩ := hD4.dd
        have hn := dFixed_any w4 gD A n c b at6 bad7 h7
        rw [hs7, HM.out] at hn
        refine hn.mono ?_
        rintro e wc ⟨rfl, hR5⟩
        have hDx := hD4.right hR5
        clear hn h7 hs7 hD4 hR4 hR5 hD1 hDo
        have hmm : ((M.1 : Int) != (M.1 : Int)) = false := by simp
        obtain ⟨A7, n7, c7, l7, bad7, hr7, hs7, hl7⟩ := hDx.rd
        obtain ⟨at8, bad8, hd8, hs8⟩ := hDx.dd
        have hbb : bad7 = bad8 := by
          have h := hs7.trans hs8.symm
          cases bad7 <;> cases bad8 <;> first | rfl | cases h
        subst hbb
        have hc9 := hd8.cell.cell 2
        have hRL := fun q => RLeft_any (wc.drewN q) gR A7 n7 c7 l7 bad7 (hr7.grow (Grow.drewN wc q))
        have hDL := fun q => dLeft_any (wc.drewN q) gD A n c b at8 bad7 (hd8.grow (Grow.drewN wc q))
        have hOK := fun q => ROK_any (wc.drewN q) gR A7 n7 c7 l7 bad7 (hr7.grow (Grow.drewN wc q))
        simp only [hs7] at hRL
        simp only [hs8] at hDL
        obtain ⟨lf, hlf⟩ : ∃ lf, lf = left M.2 := ⟨_, rfl⟩
        rw [← hlf] at hRL hDL
        have HRL := Lib.hid hRL
        have HDL := Lib.hid hDL
        have HOK := Lib.hid hOK
        have HDx := Lib.hid hDx
        clear hRL hDL hOK hlf hr7 hd8 hs7 hs8 hDx
        have hll : ((lf : Int) == (lf : Int)) = true := by simp
        have hne : ((lf : Int) != (lf : Int)) = false := by simp
        cases bad7
        all_goals
          go_wp2_with fail
          go_quiet ((first | (go_at_call 18; exact quiet_left (HRL.out _)) | (go_at_call 51; exact quiet_drew (HDL.out _)) | (go_at_call 19; exact quiet_left (HOK.out _))))
          go_wp2
          go_roundw
          case rel => exact ⟨i + 1, M.2, by omega, by go_num, HDx.out.grow (Grow.drewN _ _)⟩
          case measure => simp [intOf]; omega
      · obtain ⟨M, hM⟩ : ∃ M, text t.n st = M := ⟨_, rfl⟩
        have HM := Lib.hid hM
        have Hp := Lib.hid hp
        clear hM hp
        go_upto_region 17 with (go_at_call 38; refine (Pick_is t.kind 4 2 _ Hp.out hki.1 hki.2 (by omega)).mono ?_; rintro e w8 ⟨rfl, rfl⟩)
        go_cut [95] from 80 to 95 (fun vx wx => vx = .bool false ∧ Duet w w.heap.size gR gD A n c b n M.2 M.2 wx)
        case first Jx Kx hJx hMx =>
          refine wp_region_stages (by kernel_rfl) ?_
          refine anyOrder_start [6, 13] (Keep (TwoG gR gD)) (dW w w.heap.size gR gD A n c b n st M.2 wr (vRow wr.heap.size 5 (M.1.map b8))) (FactsOn [.is (.pointer (some ⟨gR, 0, none⟩)), .is (.slice (some ⟨b0, off, none⟩) m c2), .is (.int .i64 (i : Int)), .is (.pointer (some ⟨b0, off + i * 5, none⟩)), .is (.pointer (some ⟨b0, off + i * 5 + 1, none⟩)), .is (.int .i64 t.n), .any, .is (.pointer (some ⟨gD, 0, none⟩)), .is (.slice (some ⟨b0, off, none⟩) m c2), .is (.int .i64 (i : Int)), .is (.pointer (some ⟨b0, off + i * 5, none⟩)), .is (.pointer (some ⟨b0, off + i * 5 + 1, none⟩)), .is (.int .i64 t.n), .any, .is (.bool true), .is (.bool false)]) (fun i => 99) keep_trans keep_grow (dW.grow vRow.grow) (factsOn_mono _) (by kernel_rfl) (by kernel_rfl) ⟨hDo, Keep.refl _ _⟩ ?_ ?_
          · refine ⟨?_, ?_, ?_, ?_, ?_, ?_, ?_, ?_, ?_, ?_, ?_, ?_, ?_, ?_, ?_, ?_, trivial⟩
            · refine stageOf_free rfl (fun _ _ _ _ _ _ => wanted_none rfl) ?_
              intro us vals w3 a' ha hle hW hd hv K hK
              have q6 : a'.tmps[6]? = some (.pointer (some ⟨gR, 0, none⟩)) := by rw [ha.out]; kernel_rfl
              exact step_value (w2 := w3) (by go_simp) (hK _ _ (Grow.refl _) rfl)
            · refine stageOf_free rfl (fun _ _ _ _ _ _ => wanted_none rfl) ?_
              intro us vals w3 a' ha hle hW hd hv K hK
              have q1 : a'.tmps[1]? = some (.slice (some ⟨b0, off, none⟩) m c2) := by rw [ha.out]; kernel_rfl
              exact step_value (w2 := w3) (by go_simp) (hK _ _ (Grow.refl _) rfl)
            · refine stageOf_free rfl (fun _ _ _ _ _ _ => wanted_none rfl) ?_
              intro us vals w3 a' ha hle hW hd hv K hK
              have q8 : a'.tmps[8]? = some (.int .i64 (i : Int)) := by rw [ha.out]; kernel_rfl
              exact step_value (w2 := w3) (by go_simp) (hK _ _ (Grow.refl _) rfl)
            · refine stageOf_free rfl (fun _ _ _ _ _ _ => wanted_none rfl) ?_
              intro us vals w3 a' ha hle hW hd hv K hK
              obtain ⟨d1, d2, _⟩ := hd
              have q81 : a'.tmps[81]? = some (us 1) := by rw [ha.out]; kernel_rfl
              rw [show us 1 = .slice (some ⟨b0, off, none⟩) m c2 from d1] at q81
              have q82 : a'.tmps[82]? = some (us 2) := by rw [ha.out]; kernel_rfl
              rw [show us 2 = .int .i64 (i : Int) from d2] at q82
              refine step_value (v := .pointer (some ⟨b0, off + i * 5, none⟩)) (w2 := w3) ?_ (hK _ _ (Grow.refl _) rfl)
              go_simp
              (try (intro h; omega))
            · refine stageOf_free rfl (fun _ _ _ _ _ _ => wanted_none rfl) ?_
              intro us vals w3 a' ha hle hW hd hv K hK
              obtain ⟨d3, _⟩ := hd
              have q83 : a'.tmps[83]? = some (us 3) := by rw [ha.out]; kernel_rfl
              rw [show us 3 = .pointer (some ⟨b0, off + i * 5, none⟩) from d3] at q83
              refine step_value (v := .pointer (some ⟨b0, off + i * 5 + 1, none⟩)) (w2 := w3) ?_ (hK _ _ (Grow.refl _) rfl)
              go_simp
            · refine stageOf_free rfl (fun _ _ _ _ _ _ => wanted_none rfl) ?_
              intro us vals w3 a' ha hle hW hd hv K hK
              obtain ⟨d4, _⟩ := hd
              have q84 : a'.tmps[84]? = some (us 4) := by rw [ha.out]; kernel_rfl
              rw [show us 4 = .pointer (some ⟨b0, off + i * 5 + 1, none⟩) from d4] at q84
              have hc : w3.cell? ⟨b0, off + i * 5 + 1, none⟩ = some (.int .i64 t.n) := (hle.cell (p := ⟨b0, off + i * 5 + 1, none⟩) hzb hbf).trans hc1
              refine step_value (v := .int .i64 t.n) (w2 := w3) ?_ (hK _ _ (Grow.refl _) rfl)
              go_simp
            · refine stageOf_mem (t := 0) rfl ?_
              intro us vals w3 a' ha hle hW hd hv
              obtain ⟨d0, d5, _⟩ := hd
              obtain rfl := List.eq_nil_of_length_eq_zero (Nat.le_zero.1 (show vals.length ≤ 0 from Nat.le_of_eq hv))
              refine ⟨wanted_none rfl, fun K hK => ?_⟩
              have q80 : a'.tmps[80]? = some (us 0) := by rw [ha.out]; kernel_rfl
              rw [show us 0 = .pointer (some ⟨gR, 0, none⟩) from d0] at q80
              have q85 : a'.tmps[85]? = some (us 5) := by rw [ha.out]; kernel_rfl
              rw [show us 5 = .int .i64 t.n from d5] at q85
              obtain ⟨A6, n6, c6, l6, bad6, h6, hs6, hl6⟩ := hW.1.rd
              refine step_call (f := 16) (args := #[.pointer (some ⟨gR, 0, none⟩), .int .i64 t.n]) (by go_simp) ?_
              have hn := RText_any w3 gR A6 n6 c6 l6 bad6 t.n h6 (by omega)
              rw [hs6, HM.out] at hn
              refine hn.mono ?_
              rintro e w4 ⟨r4, B4, rfl, hB4, ho4, hR4⟩
              have hv4 : vRow wr.heap.size 5 (M.1.map b8) r4 w4 := by unfold vRow; rw [List.length_map]; exact own_base ho4 (Nat.le_trans hle.size hB4)
              exact ⟨_, rfl, hK _ _ (hR4.keep.mono fun q hq => Or.inl (Or.inl hq)) ⟨hW.1.left hl6 hR4, hW.2.trans' (hR4.keep.mono fun q hq => Or.inl (Or.inl hq)), hv4⟩⟩
            · refine stageOf_free rfl (fun _ _ _ _ _ _ => wanted_none rfl) ?_
              intro us vals w3 a' ha hle hW hd hv K hK
              have q7 : a'.tmps[7]? = some (.pointer (some ⟨gD, 0, none⟩)) := by rw [ha.out]; kernel_rfl
              exact step_value (w2 := w3) (by go_simp) (hK _ _ (Grow.refl _) rfl)
            · refine stageOf_free rfl (fun _ _ _ _ _ _ => wanted_none rfl) ?_
              intro us vals w3 a' ha hle hW hd hv K hK
              have q1 : a'.tmps[1]? = some (.slice (some ⟨b0, off, none⟩) m c2) := by rw [ha.out]; kernel_rfl
              exact step_value (w2 := w3) (by go_simp) (hK _ _ (Grow.refl _) rfl)
            · refine stageOf_free rfl (fun _ _ _ _ _ _ => wanted_none rfl) ?_
              intro us vals w3 a' ha hle hW hd hv K hK
              have q8 : a'.tmps[8]? = some (.int .i64 (i : Int)) := by rw [ha.out]; kernel_rfl
              exact step_value (w2 := w3) (by go_simp) (hK _ _ (Grow.refl _) rfl)
            · refine stageOf_free rfl (fun _ _ _ _ _ _ => wanted_none rfl) ?_
              intro us vals w3 a' ha hle hW hd hv K hK
              obtain ⟨d8, d9, _⟩ := hd
              have q88 : a'.tmps[88]? = some (us 8) := by rw [ha.out]; kernel_rfl
              rw [show us 8 = .slice (some ⟨b0, off, none⟩) m c2 from d8] at q88
              have q89 : a'.tmps[89]? = some (us 9) := by rw [ha.out]; kernel_rfl
              rw [show us 9 = .int .i64 (i : Int) from d9] at q89
              refine step_value (v := .pointer (some ⟨b0, off + i * 5, none⟩)) (w2 := w3) ?_ (hK _ _ (Grow.refl _) rfl)
              go_simp
              (try (intro h; omega))
            · refine stageOf_free rfl (fun _ _ _ _ _ _ => wanted_none rfl) ?_
              intro us vals w3 a' ha hle hW hd hv K hK
              obtain ⟨d10, _⟩ := hd
              have q90 : a'.tmps[90]? = some (us 10) := by rw [ha.out]; kernel_rfl
              rw [show us 10 = .pointer (some ⟨b0, off + i * 5, none⟩) from d10] at q90
              refine step_value (v := .pointer (some ⟨b0, off + i * 5 + 1, none⟩)) (w2 := w3) ?_ (hK _ _ (Grow.refl _) rfl)
              go_simp
            · refine stageOf_free rfl (fun _ _ _ _ _ _ => wanted_none rfl) ?_
              intro us vals w3 a' ha hle hW hd hv K hK
              obtain ⟨d11, _⟩ := hd
              have q91 : a'.tmps[91]? = some (us 11) := by rw [ha.out]; kernel_rfl
              rw [show us 11 = .pointer (some ⟨b0, off + i * 5 + 1, none⟩) from d11] at q91
              have hc : w3.cell? ⟨b0, off + i * 5 + 1, none⟩ = some (.int .i64 t.n) := (hle.cell (p := ⟨b0, off + i * 5 + 1, none⟩) hzb hbf).trans hc1
              refine step_value (v := .int .i64 t.n) (w2 := w3) ?_ (hK _ _ (Grow.refl _) rfl)
              go_simp
            · refine stageOf_mem (t := 1) rfl ?_
              intro us vals w3 a' ha hle hW hd hv
              obtain ⟨d7, d12, _, _⟩ := hd
              obtain ⟨x0, rfl⟩ := List.length_eq_one_iff.1 hv
              refine ⟨wanted_none rfl, fun K hK => ?_⟩
              have q87 : a'.tmps[87]? = some (us 7) := by rw [ha.out]; kernel_rfl
              rw [show us 7 = .pointer (some ⟨gD, 0, none⟩) from d7] at q87
              have q92 : a'.tmps[92]? = some (us 12) := by rw [ha.out]; kernel_rfl
              rw [show us 12 = .int .i64 t.n from d12] at q92
              obtain ⟨at6, bad6, h6, hs6⟩ := hW.1.dd
              refine step_call (f := 48) (args := #[.pointer (some ⟨gD, 0, none⟩), .int .i64 t.n]) (by go_simp) ?_
              have hn := dText_any w3 gD A n c b at6 bad6 t.n h6 (by omega)
              rw [hs6, HM.out] at hn
              refine hn.mono ?_
              rintro e w4 ⟨r4, B4, rfl, hB4, ho4, hR4⟩
              have hv4 : vRow wr.heap.size 5 (M.1.map b8) r4 w4 := by unfold vRow; rw [List.length_map]; exact own_base ho4 (Nat.le_trans hle.size hB4)
              exact ⟨_, rfl, hK _ _ (hR4.keep.mono fun q hq => Or.inl (Or.inr hq)) ⟨hW.1.right hR4, hW.2.1.trans' (hR4.keep.mono fun q hq => Or.inl (Or.inr hq)), vRow.keep hgDl hR4.keep hW.2.2, hv4⟩⟩
            · refine stageOf_free rfl (fun _ _ _ _ _ _ => wanted_none rfl) ?_
              intro us vals w3 a' ha hle hW hd hv K hK
              obtain ⟨d6, d13, _, _⟩ := hd
              have q86 : a'.tmps[86]? = some (us 6) := by rw [ha.out]; kernel_rfl
              have q93 : a'.tmps[93]? = some (us 13) := by rw [ha.out]; kernel_rfl
              obtain ⟨e1, e2⟩ := dW.val hW d6 d13
              obtain ⟨A6, c6, e6, m6, k6, r6⟩ := own_reads e1
              obtain ⟨A7, c7, e7, m7, k7, r7⟩ := own_reads e2
              rw [List.length_map] at e6 e7 m6 m7 r6 r7
              rw [e6] at q86
              rw [e7] at q93
              refine step_call (f := 43) (args := #[.slice A6 M.1.length c6, .slice A7 M.1.length c7]) (by go_simp) ?_
              refine (bytes02_any w3 _ _ A6 A7 _ c6 _ c7 M.1 M.1 r6 r7 (Nat.le_trans m6 k6) (Nat.le_trans m7 k7)).mono ?_
              rw [sameL_self]
              rintro e w4 ⟨rfl, q, rfl⟩
              exact ⟨_, rfl, hK _ _ (Grow.drewN _ _) rfl⟩
            · refine stageOf_free rfl (fun _ _ _ _ _ _ => wanted_none rfl) ?_
              intro us vals w3 a' ha hle hW hd hv K hK
              obtain ⟨d14, _⟩ := hd
              have q94 : a'.tmps[94]? = some (us 14) := by rw [ha.out]; kernel_rfl
              rw [show us 14 = .bool true from d14] at q94
              refine step_value (v := .bool false) (w2 := w3) ?_ (hK _ _ (Grow.refl _) rfl)
              go_simp
          · intro us vals w3 hle hvl hV _ hfa
            obtain ⟨x1, x2, rfl⟩ : ∃ x1 x2, vals = [x1, x2] := by match vals, hvl with | [x1, x2], _ => exact ⟨x1, x2, rfl⟩
            have h9 : us 15 = .bool false := hfa 15 (by decide) rfl
            exact hMx _ _ (Met.intro (hJx _ _ ⟨us 0, us 1, us 2, us 3, us 4, us 5, us 6, us 7, us 8, us 9, us 10, us 11, us 12, us 13, us 14, us 15, ⟨h9, hV.1⟩, by kernel_rfl⟩))
        case rest =>
          obtain ⟨rfl, hDx⟩ := hcut
          obtain ⟨A7, n7, c7, l7, bad7, hr7, hs7, hl7⟩ := hDx.rd
          obtain ⟨at8, bad8, hd8, hs8⟩ := hDx.dd
          have hbb : bad7 = bad8 := by
            have h := hs7.trans hs8.symm
            cases bad7 <;> cases bad8 <;> first | rfl | cases h
          subst hbb
          have hc9 := hd8.cell.cell 2
          have hRL := fun q => RLeft_any (wc.drewN q) gR A7 n7 c7 l7 bad7 (hr7.grow (Grow.drewN wc q))
          have hDL := fun q => dLeft_any (wc.drewN q) gD A n c b at8 bad7 (hd8.grow (Grow.drewN wc q))
          have hOK := fun q => ROK_any (wc.drewN q) gR A7 n7 c7 l7 bad7 (hr7.grow (Grow.drewN wc q))
          simp only [hs7] at hRL
          simp only [hs8] at hDL
          obtain ⟨lf, hlf⟩ : ∃ lf, lf = left M.2 := ⟨_, rfl⟩
          rw [← hlf] at hRL hDL
          have HRL := Lib.hid hRL
          have HDL := Lib.hid hDL
          have HOK := Lib.hid hOK
          have HDx := Lib.hid hDx
          clear hRL hDL hOK hlf hr7 hd8 hs7 hs8 hDx
          have hll : ((lf : Int) == (lf : Int)) = true := by simp
          have hne : ((lf : Int) != (lf : Int)) = false := by simp
          cases bad7
          all_goals
            go_wp2_with fail
            go_quiet ((first | (go_at_call 18; exact quiet_left (HRL.out _)) | (go_at_call 51; exact quiet_drew (HDL.out _)) | (go_at_call 19; exact quiet_left (HOK.out _))))
            go_wp2
            go_roundw
            case rel => exact ⟨i + 1, M.2, by omega, by go_num, HDx.out.grow (Grow.drewN _ _)⟩
            case measure => simp [intOf]; omega
      · obtain ⟨M, hM⟩ : ∃ M, rising t.many t.n st = M := ⟨_, rfl⟩
        have HM := Lib.hid hM
        have Hp := Lib.hid hp
        clear hM hp
        go_upto_region 8 with (go_at_call 38; refine (Pick_is t.kind 4 3 _ Hp.out hki.1 hki.2 (by omega)).mono ?_; rintro e w8 ⟨rfl, rfl⟩)
        go_cut [53] from 28 to 53 (fun vx wx => vx = .bool false ∧ Duet w w.heap.size gR gD A n c b n M.2 M.2 wx)
        case first Jx Kx hJx hMx =>
          refine wp_region_stages (by kernel_rfl) ?_
          refine anyOrder_start [11, 23] (Keep (TwoG gR gD)) (dW w w.heap.size gR gD A n c b n st M.2 wr (vRow wr.heap.size 3 (M.1.map fun n : Nat => .int .i64 (n : Int)))) (FactsOn [.is (.pointer (some ⟨gR, 0, none⟩)), .is (.slice (some ⟨b0, off, none⟩) m c2), .is (.int .i64 (i : Int)), .is (.pointer (some ⟨b0, off + i * 5, none⟩)), .is (.pointer (some ⟨b0, off + i * 5 + 2, none⟩)), .is (.int .i64 t.many), .is (.slice (some ⟨b0, off, none⟩) m c2), .is (.int .i64 (i : Int)), .is (.pointer (some ⟨b0, off + i * 5, none⟩)), .is (.pointer (some ⟨b0, off + i * 5 + 1, none⟩)), .is (.int .i64 t.n), .any, .is (.pointer (some ⟨gD, 0, none⟩)), .is (.slice (some ⟨b0, off, none⟩) m c2), .is (.int .i64 (i : Int)), .is (.pointer (some ⟨b0, off + i * 5, none⟩)), .is (.pointer (some ⟨b0, off + i * 5 + 2, none⟩)), .is (.int .i64 t.many), .is (.slice (some ⟨b0, off, none⟩) m c2), .is (.int .i64 (i : Int)), .is (.pointer (some ⟨b0, off + i * 5, none⟩)), .is (.pointer (some ⟨b0, off + i * 5 + 1, none⟩)), .is (.int .i64 t.n), .any, .is (.bool true), .is (.bool false)]) (fun i => 99) keep_trans keep_grow (dW.grow vRow.grow) (factsOn_mono _) (by kernel_rfl) (by kernel_rfl) ⟨hDo, Keep.refl _ _⟩ ?_ ?_
          · refine ⟨?_, ?_, ?_, ?_, ?_, ?_, ?_, ?_, ?_, ?_, ?_, ?_, ?_, ?_, ?_, ?_, ?_, ?_, ?_, ?_, ?_, ?_, ?_, ?_, ?_, ?_, trivial⟩
            · refine stageOf_free rfl (fun _ _ _ _ _ _ => wanted_none rfl) ?_
              intro us vals w3 a' ha hle hW hd hv K hK
              have q6 : a'.tmps[6]? = some (.pointer (some ⟨gR, 0, none⟩)) := by rw [ha.out]; kernel_rfl
              exact step_value (w2 := w3) (by go_simp) (hK _ _ (Grow.refl _) rfl)
            · refine stageOf_free rfl (fun _ _ _ _ _ _ => wanted_none rfl) ?_
              intro us vals w3 a' ha hle hW hd hv K hK
              have q1 : a'.tmps[1]? = some (.slice (some ⟨b0, off, none⟩) m c2) := by rw [ha.out]; kernel_rfl
              exact step_value (w2 := w3) (by go_simp) (hK _ _ (Grow.refl _) rfl)
            · refine stageOf_free rfl (fun _ _ _ _ _ _ => wanted_none rfl) ?_
              intro us vals w3 a' ha hle hW hd hv K hK
              have q8 : a'.tmps[8]? = some (.int .i64 (i : Int)) := by rw [ha.out]; kernel_rfl
              exact step_value (w2 := w3) (by go_simp) (hK _ _ (Grow.refl _) rfl)
            · refine stageOf_free rfl (fun _ _ _ _ _ _ => wanted_none rfl) ?_
              intro us vals w3 a' ha hle hW hd hv K hK
              obtain ⟨d1, d2, _⟩ := hd
              have q29 : a'.tmps[29]? = some (us 1) := by rw [ha.out]; kernel_rfl
              rw [show us 1 = .slice (some ⟨b0, off, none⟩) m c2 from d1] at q29
              have q30 : a'.tmps[30]? = some (us 2) := by rw [ha.out]; kernel_rfl
              rw [show us 2 = .int .i64 (i : Int) from d2] at q30
              refine step_value (v := .pointer (some ⟨b0, off + i * 5, none⟩)) (w2 := w3) ?_ (hK _ _ (Grow.refl _) rfl)
              go_simp
              (try (intro h; omega))
            · refine stageOf_free rfl (fun _ _ _ _ _ _ => wanted_none rfl) ?_
              intro us vals w3 a' ha hle hW hd hv K hK
              obtain ⟨d3, _⟩ := hd
              have q31 : a'.tmps[31]? = some (us 3) := by rw [ha.out]; kernel_rfl
              rw [show us 3 = .pointer (some ⟨b0, off + i * 5, none⟩) from d3] at q31
              refine step_value (v := .pointer (some ⟨b0, off + i * 5 + 2, none⟩)) (w2 := w3) ?_ (hK _ _ (Grow.refl _) rfl)
              go_simp
            · refine stageOf_free rfl (fun _ _ _ _ _ _ => wanted_none rfl) ?_
              intro us vals w3 a' ha hle hW hd hv K hK
              obtain ⟨d4, _⟩ := hd
              have q32 : a'.tmps[32]? = some (us 4) := by rw [ha.out]; kernel_rfl
              rw [show us 4 = .pointer (some ⟨b0, off + i * 5 + 2, none⟩) from d4] at q32
              have hc : w3.cell? ⟨b0, off + i * 5 + 2, none⟩ = some (.int .i64 t.many) := (hle.cell (p := ⟨b0, off + i * 5 + 2, none⟩) hzb hbf).trans hc2
              refine step_value (v := .int .i64 t.many) (w2 := w3) ?_ (hK _ _ (Grow.refl _) rfl)
              go_simp
            · refine stageOf_free rfl (fun _ _ _ _ _ _ => wanted_none rfl) ?_
              intro us vals w3 a' ha hle hW hd hv K hK
              have q1 : a'.tmps[1]? = some (.slice (some ⟨b0, off, none⟩) m c2) := by rw [ha.out]; kernel_rfl
              exact step_value (w2 := w3) (by go_simp) (hK _ _ (Grow.refl _) rfl)
            · refine stageOf_free rfl (fun _ _ _ _ _ _ => wanted_none rfl) ?_
              intro us vals w3 a' ha hle hW hd hv K hK
              have q8 : a'.tmps[8]? = some (.int .i64 (i : Int)) := by rw [ha.out]; kernel_rfl
              exact step_value (w2 := w3) (by go_simp) (hK _ _ (Grow.refl _) rfl)
            · refine stageOf_free rfl (fun _ _ _ _ _ _ => wanted_none rfl) ?_
              intro us vals w3 a' ha hle hW hd hv K hK
              obtain ⟨d6, d7, _⟩ := hd
              have q34 : a'.tmps[34]? = some (us 6) := by rw [ha.out]; kernel_rfl
              rw [show us 6 = .slice (some ⟨b0, off, none⟩) m c2 from d6] at q34
              have q35 : a'.tmps[35]? = some (us 7) := by rw [ha.out]; kernel_rfl
              rw [show us 7 = .int .i64 (i : Int) from d7] at q35
              refine step_value (v := .pointer (some ⟨b0, off + i * 5, none⟩)) (w2 := w3) ?_ (hK _ _ (Grow.refl _) rfl)
              go_simp
              (try (intro h; omega))
            · refine stageOf_free rfl (fun _ _ _ _ _ _ => wanted_none rfl) ?_
              intro us vals w3 a' ha hle hW hd hv K hK
              obtain ⟨d8, _⟩ := hd
              have q36 : a'.tmps[36]? = some (us 8) := by rw [ha.out]; kernel_rfl
              rw [show us 8 = .pointer (some ⟨b0, off + i * 5, none⟩) from d8] at q36
              refine step_value (v := .pointer (some ⟨b0, off + i * 5 + 1, none⟩)) (w2 := w3) ?_ (hK _ _ (Grow.refl _) rfl)
              go_simp
            · refine stageOf_free rfl (fun _ _ _ _ _ _ => wanted_none rfl) ?_
              intro us vals w3 a' ha hle hW hd hv K hK
              obtain ⟨d9, _⟩ := hd
              have q37 : a'.tmps[37]? = some (us 9) := by rw [ha.out]; kernel_rfl
              rw [show us 9 = .pointer (some ⟨b0, off + i * 5 + 1, none⟩) from d9] at q37
              have hc : w3.cell? ⟨b0, off + i * 5 + 1, none⟩ = some (.int .i64 t.n) := (hle.cell (p := ⟨b0, off + i * 5 + 1, none⟩) hzb hbf).trans hc1
              refine step_value (v := .int .i64 t.n) (w2 := w3) ?_ (hK _ _ (Grow.refl _) rfl)
              go_simp
            · refine stageOf_mem (t := 0) rfl ?_
              intro us vals w3 a' ha hle hW hd hv
              obtain ⟨d0, d5, d10, _⟩ := hd
              obtain rfl := List.eq_nil_of_length_eq_zero (Nat.le_zero.1 (show vals.length ≤ 0 from Nat.le_of_eq hv))
              refine ⟨wanted_none rfl, fun K hK => ?_⟩
              have q28 : a'.tmps[28]? = some (us 0) := by rw [ha.out]; kernel_rfl
              rw [show us 0 = .pointer (some ⟨gR, 0, none⟩) from d0] at q28
              have q33 : a'.tmps[33]? = some (us 5) := by rw [ha.out]; kernel_rfl
              rw [show us 5 = .int .i64 t.many from d5] at q33
              have q38 : a'.tmps[38]? = some (us 10) := by rw [ha.out]; kernel_rfl
              rw [show us 10 = .int .i64 t.n from d10] at q38
              obtain ⟨A6, n6, c6, l6, bad6, h6, hs6, hl6⟩ := hW.1.rd
              refine step_call (f := 17) (args := #[.pointer (some ⟨gR, 0, none⟩), .int .i64 t.many, .int .i64 t.n]) (by go_simp) ?_
              have hn := RRising_any w3 gR A6 n6 c6 l6 bad6 t.many t.n h6 (by omega)
              rw [hs6, HM.out] at hn
              refine hn.mono ?_
              rintro e w4 ⟨r4, B4, rfl, hB4, ho4, hR4⟩
              have hv4 : vRow wr.heap.size 3 (M.1.map fun n : Nat => .int .i64 (n : Int)) r4 w4 := by unfold vRow; rw [List.length_map]; exact own_base ho4 (Nat.le_trans hle.size hB4)
              exact ⟨_, rfl, hK _ _ (hR4.keep.mono fun q hq => Or.inl (Or.inl hq)) ⟨hW.1.left hl6 hR4, hW.2.trans' (hR4.keep.mono fun q hq => Or.inl (Or.inl hq)), hv4⟩⟩
            · refine stageOf_free rfl (fun _ _ _ _ _ _ => wanted_none rfl) ?_
              intro us vals w3 a' ha hle hW hd hv K hK
              have q7 : a'.tmps[7]? = some (.pointer (some ⟨gD, 0, none⟩)) := by rw [ha.out]; kernel_rfl
              exact step_value (w2 := w3) (by go_simp) (hK _ _ (Grow.refl _) rfl)
            · refine stageOf_free rfl (fun _ _ _ _ _ _ => wanted_none rfl) ?_
              intro us vals w3 a' ha hle hW hd hv K hK
              have q1 : a'.tmps[1]? = some (.slice (some ⟨b0, off, none⟩) m c2) := by rw [ha.out]; kernel_rfl
              exact step_value (w2 := w3) (by go_simp) (hK _ _ (Grow.refl _) rfl)
            · refine stageOf_free rfl (fun _ _ _ _ _ _ => wanted_none rfl) ?_
              intro us vals w3 a' ha hle hW hd hv K hK
              have q8 : a'.tmps[8]? = some (.int .i64 (i : Int)) := by rw [ha.out]; kernel_rfl
              exact step_value (w2 := w3) (by go_simp) (hK _ _ (Grow.refl _) rfl)
            · refine stageOf_free rfl (fun _ _ _ _ _ _ => wanted_none rfl) ?_
              intro us vals w3 a' ha hle hW hd hv K hK
              obtain ⟨d13, d14, _⟩ := hd
              have q41 : a'.tmps[41]? = some (us 13) := by rw [ha.out]; kernel_rfl
              rw [show us 13 = .slice (some ⟨b0, off, none⟩) m c2 from d13] at q41
              have q42 : a'.tmps[42]? = some (us 14) := by rw [ha.out]; kernel_rfl
              rw [show us 14 = .int .i64 (i : Int) from d14] at q42
              refine step_value (v := .pointer (some ⟨b0, off + i * 5, none⟩)) (w2 := w3) ?_ (hK _ _ (Grow.refl _) rfl)
              go_simp
              (try (intro h; omega))
            · refine stageOf_free rfl (fun _ _ _ _ _ _ => wanted_none rfl) ?_
              intro us vals w3 a' ha hle hW hd hv K hK
              obtain ⟨d15, _⟩ := hd
              have q43 : a'.tmps[43]? = some (us 15) := by rw [ha.out]; kernel_rfl
              rw [show us 15 = .pointer (some ⟨b0, off + i * 5, none⟩) from d15] at q43
              refine step_value (v := .pointer (some ⟨b0, off + i * 5 + 2, none⟩)) (w2 := w3) ?_ (hK _ _ (Grow.refl _) rfl)
              go_simp
            · refine stageOf_free rfl (fun _ _ _ _ _ _ => wanted_none rfl) ?_
              intro us vals w3 a' ha hle hW hd hv K hK
              obtain ⟨d16, _⟩ := hd
              have q44 : a'.tmps[44]? = some (us 16) := by rw [ha.out]; kernel_rfl
              rw [show us 16 = .pointer (some ⟨b0, off + i * 5 + 2, none⟩) from d16] at q44
              have hc : w3.cell? ⟨b0, off + i * 5 + 2, none⟩ = some (.int .i64 t.many) := (hle.cell (p := ⟨b0, off + i * 5 + 2, none⟩) hzb hbf).trans hc2
              refine step_value (v := .int .i64 t.many) (w2 := w3) ?_ (hK _ _ (Grow.refl _) rfl)
              go_simp
            · refine stageOf_free rfl (fun _ _ _ _ _ _ => wanted_none rfl) ?_
              intro us vals w3 a' ha hle hW hd hv K hK
              have q1 : a'.tmps[1]? = some (.slice (some ⟨b0, off, none⟩) m c2) := by rw [ha.out]; kernel_rfl
              exact step_value (w2 := w3) (by go_simp) (hK _ _ (Grow.refl _) rfl)
            · refine stageOf_free rfl (fun _ _ _ _ _ _ => wanted_none rfl) ?_
              intro us vals w3 a' ha hle hW hd hv K hK
              have q8 : a'.tmps[8]? = some (.int .i64 (i : Int)) := by rw [ha.out]; kernel_rfl
              exact step_value (w2 := w3) (by go_simp) (hK _ _ (Grow.refl _) rfl)
            · refine stageOf_free rfl (fun _ _ _ _ _ _ => wanted_none rfl) ?_
              intro us vals w3 a' ha hle hW hd hv K hK
              obtain ⟨d18, d19, _⟩ := hd
              have q46 : a'.tmps[46]? = some (us 18) := by rw [ha.out]; kernel_rfl
              rw [show us 18 = .slice (some ⟨b0, off, none⟩) m c2 from d18] at q46
              have q47 : a'.tmps[47]? = some (us 19) := by rw [ha.out]; kernel_rfl
              rw [show us 19 = .int .i64 (i : Int) from d19] at q47
              refine step_value (v := .pointer (some ⟨b0, off + i * 5, none⟩)) (w2 := w3) ?_ (hK _ _ (Grow.refl _) rfl)
              go_simp
              (try (intro h; omega))
            · refine stageOf_free rfl (fun _ _ _ _ _ _ => wanted_none rfl) ?_
              intro us vals w3 a' ha hle hW hd hv K hK
              obtain ⟨d20, _⟩ := hd
              have q48 : a'.tmps[48]? = some (us 20) := by rw [ha.out]; kernel_rfl
              rw [show us 20 = .pointer (some ⟨b0, off + i * 5, none⟩) from d20] at q48
              refine step_value (v := .pointer (some ⟨b0, off + i * 5 + 1, none⟩)) (w2 := w3) ?_ (hK _ _ (Grow.refl _) rfl)
              go_simp
            · refine stageOf_free rfl (fun _ _ _ _ _ _ => wanted_none rfl) ?_
              intro us vals w3 a' ha hle hW hd hv K hK
              obtain ⟨d21, _⟩ := hd
              have q49 : a'.tmps[49]? = some (us 21) := by rw [ha.out]; kernel_rfl
              rw [show us 21 = .pointer (some ⟨b0, off + i * 5 + 1, none⟩) from d21] at q49
              have hc : w3.cell? ⟨b0, off + i * 5 + 1, none⟩ = some (.int .i64 t.n) := (hle.cell (p := ⟨b0, off + i * 5 + 1, none⟩) hzb hbf).trans hc1
              refine step_value (v := .int .i64 t.n) (w2 := w3) ?_ (hK _ _ (Grow.refl _) rfl)
              go_simp
            · refine stageOf_mem (t := 1) rfl ?_
              intro us vals w3 a' ha hle hW hd hv
              obtain ⟨d12, d17, d22, _, _⟩ := hd
              obtain ⟨x0, rfl⟩ := List.length_eq_one_iff.1 hv
              refine ⟨wanted_none rfl, fun K hK => ?_⟩
              have q40 : a'.tmps[40]? = some (us 12) := by rw [ha.out]; kernel_rfl
              rw [show us 12 = .pointer (some ⟨gD, 0, none⟩) from d12] at q40
              have q45 : a'.tmps[45]? = some (us 17) := by rw [ha.out]; kernel_rfl
              rw [show us 17 = .int .i64 t.many from d17] at q45
              have q50 : a'.tmps[50]? = some (us 22) := by rw [ha.out]; kernel_rfl
              rw [show us 22 = .int .i64 t.n from d22] at q50
              obtain ⟨at6, bad6, h6, hs6⟩ := hW.1.dd
              refine step_call (f := 50) (args := #[.pointer (some ⟨gD, 0, none⟩), .int .i64 t.many, .int .i64 t.n]) (by go_simp) ?_
              have hn := dRising_any w3 gD A n c b at6 bad6 t.many t.n h6 (by omega)
              rw [hs6, HM.out] at hn
              refine hn.mono ?_
              rintro e w4 ⟨r4, B4, rfl, hB4, ho4, hR4⟩
              have hv4 : vRow wr.heap.size 3 (M.1.map fun n : Nat => .int .i64 (n : Int)) r4 w4 := by unfold vRow; rw [List.length_map]; exact own_base ho4 (Nat.le_trans hle.size hB4)
              exact ⟨_, rfl, hK _ _ (hR4.keep.mono fun q hq => Or.inl (Or.inr hq)) ⟨hW.1.right hR4, hW.2.1.trans' (hR4.keep.mono fun q hq => Or.inl (Or.inr hq)), vRow.keep hgDl hR4.keep hW.2.2, hv4⟩⟩
            · refine stageOf_free rfl (fun _ _ _ _ _ _ => wanted_none rfl) ?_
              intro us vals w3 a' ha hle hW hd hv K hK
              obtain ⟨d11, d23, _, _⟩ := hd
              have q39 : a'.tmps[39]? = some (us 11) := by rw [ha.out]; kernel_rfl
              have q51 : a'.tmps[51]? = some (us 23) := by rw [ha.out]; kernel_rfl
              obtain ⟨e1, e2⟩ := dW.val hW d11 d23
              obtain ⟨A6, c6, e6, m6, k6, r6⟩ := own_reads e1
              obtain ⟨A7, c7, e7, m7, k7, r7⟩ := own_reads e2
              rw [List.length_map] at e6 e7 m6 m7 r6 r7
              have r6' : IntsAt w3 w3.heap.size A6 M.1.length (M.1.map fun n : Nat => (n : Int)) := by unfold IntsAt; rw [List.map_map]; exact r6
              have r7' : IntsAt w3 w3.heap.size A7 M.1.length (M.1.map fun n : Nat => (n : Int)) := by unfold IntsAt; rw [List.map_map]; exact r7
              rw [e6] at q39
              rw [e7] at q51
              refine step_call (f := 49) (args := #[.slice A6 M.1.length c6, .slice A7 M.1.length c7]) (by go_simp) ?_
              refine (ints02_any w3 _ _ A6 A7 _ c6 _ c7 _ _ r6' r7' (Nat.le_trans m6 k6) (Nat.le_trans m7 k7)).mono ?_
              rw [sameL_self]
              rintro e w4 ⟨rfl, q, rfl⟩
              exact ⟨_, rfl, hK _ _ (Grow.drewN _ _) rfl⟩
            · refine stageOf_free rfl (fun _ _ _ _ _ _ => wanted_none rfl) ?_
              intro us vals w3 a' ha hle hW hd hv K hK
              obtain ⟨d24, _⟩ := hd
              have q52 : a'.tmps[52]? = some (us 24) := by rw [ha.out]; kernel_rfl
              rw [show us 24 = .bool true from d24] at q52
              refine step_value (v := .bool false) (w2 := w3) ?_ (hK _ _ (Grow.refl _) rfl)
              go_simp
          · intro us vals w3 hle hvl hV _ hfa
            obtain ⟨x1, x2, rfl⟩ : ∃ x1 x2, vals = [x1, x2] := by match vals, hvl with | [x1, x2], _ => exact ⟨x1, x2, rfl⟩
            have h9 : us 25 = .bool false := hfa 25 (by decide) rfl
            exact hMx _ _ (Met.intro (hJx _ _ ⟨us 0, us 1, us 2, us 3, us 4, us 5, us 6, us 7, us 8, us 9, us 10, us 11, us 12, us 13, us 14, us 15, us 16, us 17, us 18, us 19, us 20, us 21, us 22, us 23, us 24, us 25, ⟨h9, hV.1⟩, by kernel_rfl⟩))
        case rest =>
          obtain ⟨rfl, hDx⟩ := hcut
          obtain ⟨A7, n7, c7, l7, bad7, hr7, hs7, hl7⟩ := hDx.rd
          obtain ⟨at8, bad8, hd8, hs8⟩ := hDx.dd
          have hbb : bad7 = bad8 := by
            have h := hs7.trans hs8.symm
            cases bad7 <;> cases bad8 <;> first | rfl | cases h
          subst hbb
          have hc9 := hd8.cell.cell 2
          have hRL := fun q => RLeft_any (wc.drewN q) gR A7 n7 c7 l7 bad7 (hr7.grow (Grow.drewN wc q))
          have hDL := fun q => dLeft_any (wc.drewN q) gD A n c b at8 bad7 (hd8.grow (Grow.drewN wc q))
          have hOK := fun q => ROK_any (wc.drewN q) gR A7 n7 c7 l7 bad7 (hr7.grow (Grow.drewN wc q))
          simp only [hs7] at hRL
          simp only [hs8] at hDL
          obtain ⟨lf, hlf⟩ : ∃ lf, lf = left M.2 := ⟨_, rfl⟩
          rw [← hlf] at hRL hDL
          have HRL := Lib.hid hRL
          have HDL := Lib.hid hDL
          have HOK := Lib.hid hOK
          have HDx := Lib.hid hDx
          clear hRL hDL hOK hlf hr7 hd8 hs7 hs8 hDx
          have hll : ((lf : Int) == (lf : Int)) = true := by simp
          have hne : ((lf : Int) != (lf : Int)) = false := by simp
          cases bad7
          all_goals
            go_wp2_with fail
            go_quiet ((first | (go_at_call 18; exact quiet_left (HRL.out _)) | (go_at_call 51; exact quiet_drew (HDL.out _)) | (go_at_call 19; exact quiet_left (HOK.out _))))
            go_wp2
            go_roundw
            case rel => exact ⟨i + 1, M.2, by omega, by go_num, HDx.out.grow (Grow.drewN _ _)⟩
            case measure => simp [intOf]; omega
    · obtain rfl : m = i := by omega
      have hlent := hD.out.lent
      have HLe := Lib.hid hlent
      have HRe := Lib.hid (hR.below hbw)
      have hz := hbw.mono (Nat.le_refl _)
      clear hlent hD
      go_wp2_with fail
      refine (KeptBytes_yes wr w.heap.size w.heap.size A n c b HLe.out HRe.out (by omega)).mono ?_
      rintro e w9 ⟨rfl, q9, rfl⟩
      go_wp2
      go_ret
      exact ⟨rfl, Below.trans hbw ((Grow.drewN wr q9).mono hbz)⟩
end Go.Proofs.YtcjbeaohmgfgoaaGreat
