/-
  The walks of frame's reader.all: the closure that goes through the parts.
-/
import Derived.Test.YtcimkoehcdfjdaaGreatDoorFrameNext
import Derived.Test.YtcimkoehcdfjdaaGreatDoorWNumber
namespace Go.Proofs.YtcimkoehcdfjdaaGreatDoor
open Go.RowKit Go.Shelf WireM
attribute [local go_sem] Oper.semAt_some

theorem fall_any (R : Nat) (w : World) : Calls Tryz.prog 94 #[.pointer (some ⟨R, 0, none⟩)] w fun e w' => e = .returned (.func (.func 141) #[] #[.pointer (some ⟨w.heap.size, 0, none⟩)]) ∧ w.alloc (.cells #[.pointer (some ⟨R, 0, none⟩)] 152) = w' := by
  go_enter Tryz.func94, Tryz.ntmps94
  go_wp2
  go_ret
  exact ⟨rfl, rfl⟩

/-- how many bytes are left for frame's reader at R -/
def leftAt (R : Nat) (w : World) : Nat :=
  match w.cell? ⟨R, 0, none⟩ with
  | some (.pointer (some a)) => (match w.cell? ⟨a.block, 0, none⟩ with
    | some (.slice _ n _) => n
    | _ => 0)
  | _ => 0
theorem FRd.leftAt {w : World} {B R n c g : Nat} {A : Option Addr} {b l : List UInt8} {bad : Bool} (h : FRd w B R A n c b g l bad) : leftAt R w = l.length := by
  obtain ⟨A', n', c', hr⟩ := h.rd
  have h0 := h.cell.cell 0
  have h1 := hr.cell.cell 0
  simp at h0 h1
  simp [Proofs.YtcimkoehcdfjdaaGreatDoor.leftAt, h0, h1, hr.len]
/-- what the rounds leave -/
def FallTo (J : List PartM → World → Prop) (JN : World → Prop) (l : List UInt8) (e : Ending) (w : World) : Prop := (∃ v, e = .returned v) ∧ match partsL l with
  | some ts => J ts w
  | none => JN w
theorem FallTo.yes {J : List PartM → World → Prop} {JN : World → Prop} {l : List UInt8} {v : Value} {w : World} {ts : List PartM} (h : partsL l = some ts) (hj : J ts w) : FallTo J JN l (.returned v) w := ⟨⟨_, rfl⟩, by rw [h]; exact hj⟩
theorem FallTo.no {J : List PartM → World → Prop} {JN : World → Prop} {l : List UInt8} {v : Value} {w : World} (h : partsL l = none) (hj : JN w) : FallTo J JN l (.returned v) w := ⟨⟨_, rfl⟩, by rw [h]; exact hj⟩

set_option maxRecDepth 100000 in
set_option maxHeartbeats 4000000 in
theorem fall1_any (m : Nat) (hm : 1 ≤ m) (lp Bx B R : Nat) (A : Option Addr) (n c : Nat) (b : List UInt8) (J : List PartM → World → Prop) (JN : World → Prop) (l0 : List UInt8)
    (hY : ∀ (ts : List PartM) (t : PartM) (v : Value) (Bv g : Nat) (r : List UInt8) (W0 W : World), ts.length < l0.length → J ts W0 → (∃ cs, Blk W0 R 154 cs) → Keep (Own1 R) W0 W → W0.heap.size ≤ Bv → FRd W B R A n c b g r false → Boxed W Bx 152 (.pointer (some ⟨R, 0, none⟩)) → W.ownsRow Bv 5 1 v t.b.length (t.b.map b8) →
      YieldAt Fence.wide (m - 1) Tryz.prog lp #[.agg #[.int .u8 (t.tag.toNat : Int), v], .bool true] W fun e W' => e = .returned (.bool true) ∧ J (ts ++ [t]) W' ∧ FRd W' B R A n c b g r false ∧ Boxed W' Bx 152 (.pointer (some ⟨R, 0, none⟩)))
    (hN : ∀ (ts : List PartM) (tag : UInt8) (v : Value) (Bv N : Nat) (xs : List Value) (W0 W : World), J ts W0 → (∃ cs, Blk W0 R 154 cs) → Keep (Own1 R) W0 W → W.ownsRow Bv 5 1 v N xs → Boxed W Bx 152 (.pointer (some ⟨R, 0, none⟩)) →
      YieldAt Fence.wide (m - 1) Tryz.prog lp #[.agg #[.int .u8 (tag.toNat : Int), v], .bool false] W fun e W' => e = .returned (.bool false) ∧ JN W')
    (W : World) (g0 : Nat) (hF : FRd W B R A n c b g0 l0 false) (hBx : Boxed W Bx 152 (.pointer (some ⟨R, 0, none⟩))) (h0 : J [] W) (hz : ∀ ts w, J ts w → B ≤ w.heap.size) :
    CallsIn Fence.wide m Tryz.prog 141 #[.func (.yield lp) #[] #[], .pointer (some ⟨Bx, 0, none⟩)] W (FallTo J JN l0) := by
  refine callsIn_of_wp Tryz.func141 rfl trivial ?_ rfl
  simp only [Tryz.ntmps141, List.size_toArray, List.length_cons, List.length_nil, Nat.reduceAdd, Nat.reduceSub, Array.replicate_succ, Array.replicate_zero, List.push_toArray, List.append_toArray, List.nil_append, List.cons_append]
  have HY := Lib.hid hY
  have HN := Lib.hid hN
  have Hz := Lib.hid hz
  clear hY hN hz
  gi_wp2
  gi_loopw [] (fun wr => ∃ (ts : List PartM) (g : Nat) (lr : List UInt8), ts.length + lr.length ≤ l0.length ∧ Hid (partsL l0 = (partsL lr).map (ts ++ ·)) ∧ FRd wr B R A n c b g lr false ∧ Boxed wr Bx 152 (.pointer (some ⟨R, 0, none⟩)) ∧ Hid (J ts wr)) (fun wr => leftAt R wr)
  case atStart => exact ⟨[], g0, l0, by simp, by show _ = _; cases partsL l0 <;> simp, hF, hBx, h0⟩
  case round =>
    obtain ⟨ts, g, lr, hle, hp, hf, hb, hj⟩ := hrel
    obtain ⟨A', n', c', hr⟩ := hf.rd
    have hcR := hf.cell.cell 0
    have hcb := hb.cell
    have hwz := Hz.out _ _ hj.out
    cases lr with
    | nil =>
      have hl0 : Calls Tryz.prog 51 #[.pointer (some ⟨g, 0, none⟩)] wr fun e w' => e = .returned (.int .i64 0) ∧ wr = w' := RLeft_any wr g A' n' c' [] false hr
      have Hl0 := Lib.hid hl0
      have Hfin := Lib.hid (show partsL l0 = some ts by rw [hp.out, partsL_nil]; simp)
      clear hl0
      gi_wp2_with (refine ⟨trivial, ?_⟩; gi_at_call 51; refine (callsIn_wide.2 Hl0.out).mono ?_; rintro e w' ⟨rfl, rfl⟩)
      go_end0
      exact FallTo.yes Hfin.out hj.out
    | cons tag r =>
      obtain ⟨q, hq⟩ : ∃ q, q = r.length + 1 := ⟨_, rfl⟩
      have hl1 : Calls Tryz.prog 51 #[.pointer (some ⟨g, 0, none⟩)] wr fun e w' => e = .returned (.int .i64 (q : Int)) ∧ wr = w' := by
        rw [hq]
        exact RLeft_any wr g A' n' c' (tag :: r) false hr
      have Hl1 := Lib.hid hl1
      have hq1 : 0 < q := by omega
      have Hnx := Lib.hid (fnext_any wr B R A n c b g tag r hf hwz)
      have Hm0 := Lib.hid hf.leftAt
      have hRl := hf.cell.lt
      have hBl := hb.lt
      have Hb := Lib.hid hb
      have HRn := Lib.hid (show Bx ≠ R from fun e => by
        have h1 := hf.cell
        have h2 := hb
        rw [e] at h2
        unfold Blk at h1
        unfold Boxed at h2
        rw [h2] at h1
        cases h1)
      have HfC := Lib.hid hf.cell
      clear hl1 hq hf hb
      gi_wp2_with (refine ⟨trivial, ?_⟩; gi_at_call 51; refine (callsIn_wide.2 Hl1.out).mono ?_; rintro e w' ⟨rfl, rfl⟩)
      refine ⟨trivial, ?_⟩
      gi_at_call 142
      refine (callsIn_wide.2 Hnx.out).mono ?_
      rintro e w1 ⟨g1, l1, bad1, v, Bv, rfl, hf1, hs1, hBv, hown, hk1⟩
      obtain ⟨A5, c5, rfl, h51, h52, h53⟩ := own_reads hown
      obtain ⟨T, hT⟩ : ∃ T, T = text 67108864 (some r) := ⟨_, rfl⟩
      rw [← hT] at hs1 hown
      have HT := Lib.hid hT
      have hTn : (text 67108864 (some r)).1.length = T.1.length := by rw [hT]
      rw [hTn]
      obtain ⟨x, st⟩ := T
      obtain rfl : stOf l1 bad1 = st := hs1
      have hG2 : Grow w1 (w1.alloc (.cells #[.int .u8 (tag.toNat : Int), .slice A5 x.length c5] 40)) := Grow.alloc _ _
      have hf2 := hf1.grow hG2 (by have := hk1.size; omega)
      have hown2 := own_below hown hG2
      have hb2 : Boxed (w1.alloc (.cells #[.int .u8 (tag.toNat : Int), .slice A5 x.length c5] 40)) Bx 152 (.pointer (some ⟨R, 0, none⟩)) := Blk.alloc (hk1.blk (show Blk wr Bx 152 #[.pointer (some ⟨R, 0, none⟩)] from Hb.out) HRn.out) _
      have hk2 := hk1.trans' (Keep.alloc w1 (.cells #[.int .u8 (tag.toNat : Int), .slice A5 x.length c5] 40))
      obtain ⟨A3, n3, c3, hr3⟩ := hf2.rd
      have hcR2 := hf2.cell.cell 0
      have hcB2 := hb2.cell
      have hok := ROK_any _ g1 A3 n3 c3 l1 bad1 hr3
      have hcP0 := (Blk.new w1 40 #[.int .u8 (tag.toNat : Int), .slice A5 x.length c5]).cell 0
      have hcP1 := (Blk.new w1 40 #[.int .u8 (tag.toNat : Int), .slice A5 x.length c5]).cell 1
      have hwz1 := hk1.size
      cases bad1 with
      | false =>
        have ht : text 67108864 (some r) = (x, some l1) := HT.out.symm
        have hlt := text_less ht
        obtain ⟨fn, tmps, assign, body, hy, hR⟩ := HY.out ts ⟨tag, x⟩ _ Bv g1 l1 wr _ (by simp only [List.length_cons] at hle; omega) hj.out ⟨_, HfC.out⟩ hk2 hBv hf2 hb2 hown2
        have Hok := Lib.hid hok
        have Hp2 := Lib.hid (show partsL l0 = (partsL l1).map ((ts ++ [⟨tag, x⟩]) ++ ·) by
          rw [hp.out, partsL_yes ht, Option.map_map]
          congr 1
          funext y
          simp)
        have Hf1 := Lib.hid hf1
        have Hf2 := Lib.hid hf2
        have Hlt := Lib.hid hlt
        clear hT HT hTn ht hok hown hown2 hf1 hf2 hb2 h53 hr3 hlt hk1 hk2
        gi_wp2_with (refine ⟨trivial, ?_⟩; gi_at_call 50; refine (callsIn_wide.2 Hok.out).mono ?_; rintro e w' ⟨rfl, rfl⟩)
        refine hR.mono ?_
        rintro e w3 ⟨rfl, hj3, hf3, hb3⟩
        have Hj3 := Lib.hid hj3
        clear hj3 hR
        gi_wp2
        go_roundw
        case rel => exact ⟨ts ++ [⟨tag, x⟩], g1, l1, by have := Hlt.out; simp only [List.length_cons] at hle; simp only [List.length_append, List.length_cons, List.length_nil]; omega, Hp2, hf3, hb3, Hj3⟩
        case measure =>
          rw [hf3.leftAt, Hm0.out]
          have h1 := Hlt.out
          simp only [List.length_cons]
          omega
      | true =>
        have ht : text 67108864 (some r) = (x, none) := HT.out.symm
        obtain ⟨fn, tmps, assign, body, hy, hR⟩ := HN.out ts tag _ Bv x.length _ wr _ hj.out ⟨_, HfC.out⟩ hk2 hown2 hb2
        have Hok := Lib.hid hok
        have Hp2 := Lib.hid (show partsL l0 = none by rw [hp.out, partsL_no ht]; rfl)
        clear hT HT hTn ht hok hown hown2 hf1 hf2 hb2 h53 hr3 hk1 hk2
        gi_wp2_with (refine ⟨trivial, ?_⟩; gi_at_call 50; refine (callsIn_wide.2 Hok.out).mono ?_; rintro e w' ⟨rfl, rfl⟩)
        refine hR.mono ?_
        rintro e w3 ⟨rfl, hj3⟩
        have Hj3 := Lib.hid hj3
        clear hj3 hR
        gi_wp2
        exact bodyPost_ret0 rfl rfl (FallTo.no Hp2.out Hj3.out)
end Go.Proofs.YtcimkoehcdfjdaaGreatDoor
