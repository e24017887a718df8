/-
  The walk of frame's Burst: bytes with some bits turned.
-/
import Derived.StillTailTactics
import Derived.BigRegion
import Derived.Test.YtcimkoehcdfjdaaDoorWBytes
import Derived.Test.YtcimkoehcdfjdaaDoorCrcA
import Derived.Test.YtcimkoehcdfjdaaDoorCrcMath
namespace Go.Proofs.YtcimkoehcdfjdaaDoor
open Go.RowKit CrcM

/-- cc is b with the burst in it -/
def BurstOf (b : List UInt8) (bit : Int) (mask : Nat) (cc : List UInt8) : Prop :=
  cc.length = b.length ∧ ∀ j, j < 8 * b.length → (cc.getD (j / 8) 0).toNat.testBit (j % 8) = ((b.getD (j / 8) 0).toNat.testBit (j % 8) ^^ (decide (0 ≤ bit ∧ bit ≤ (j : Int)) && mask.testBit (j - bit.toNat)))
theorem BurstOf.none {b : List UInt8} {bit : Int} {mask : Nat} (h : bit < 0 ∨ 8 * (b.length : Int) ≤ bit ∨ mask = 0) : BurstOf b bit mask b := ⟨rfl, fun j hj => by
  rcases h with h | h | h
  · have : ¬ (0 ≤ bit ∧ bit ≤ (j : Int)) := by omega
    simp [this]
  · have : ¬ (0 ≤ bit ∧ bit ≤ (j : Int)) := by omega
    simp [this]
  · subst h
    simp⟩
theorem BurstOf.flip {b cc : List UInt8} {fr mask i : Nat} (h : Flip b cc fr mask i) (he : mask / 2 ^ i = 0 ∨ 8 * b.length ≤ fr + i) : BurstOf b (fr : Int) mask cc := ⟨h.len, fun j hj => by
  rw [h.bit j hj]
  congr 1
  have e0 : decide (0 ≤ (fr : Int) ∧ (fr : Int) ≤ (j : Int)) = decide (fr ≤ j) := by rw [decide_eq_decide]; omega
  rw [e0, Int.toNat_natCast]
  by_cases h1 : fr ≤ j
  · simp only [h1, decide_true, Bool.true_and]
    by_cases h2 : j < fr + i
    · simp only [h2, decide_true, Bool.true_and]
    · simp only [h2, decide_false, Bool.false_and]
      rcases he with he | he
      · have : mask.testBit (j - fr) = (mask / 2 ^ i).testBit (j - fr - i) := by rw [Nat.testBit_div_two_pow]; congr 1; omega
        rw [this, he]
        simp
      · omega
  · simp only [h1, decide_false, Bool.false_and]⟩
/-- there is one such -/
theorem BurstOf.one {b c1 c2 : List UInt8} {bit : Int} {mask : Nat} (h1 : BurstOf b bit mask c1) (h2 : BurstOf b bit mask c2) : c1 = c2 := by
  apply List.ext_getElem (h1.1.trans h2.1.symm)
  intro k hk1 hk2
  rw [← UInt8.toNat_inj]
  apply Nat.eq_of_testBit_eq
  intro t
  by_cases ht : t < 8
  · have e1 := h1.2 (8 * k + t) (by have := h1.1; omega)
    have e2 := h2.2 (8 * k + t) (by have := h1.1; omega)
    have ek : (8 * k + t) / 8 = k := by omega
    have et : (8 * k + t) % 8 = t := by omega
    rw [ek, et] at e1 e2
    have g1 : c1.getD k 0 = c1[k] := by simp [List.getD, hk1]
    have g2 : c2.getD k 0 = c2[k] := by simp [List.getD, hk2]
    rw [g1] at e1
    rw [g2] at e2
    rw [e1, e2]
  · have b1 := (c1[k]).toNat_lt
    have b2 := (c2[k]).toNat_lt
    rw [Nat.testBit_lt_two_pow (Nat.lt_of_lt_of_le b1 (Nat.pow_le_pow_right (by omega) (show 8 ≤ t by omega))), Nat.testBit_lt_two_pow (Nat.lt_of_lt_of_le b2 (Nat.pow_le_pow_right (by omega) (show 8 ≤ t by omega)))]
/-- a burst that turns something is seen by the sum -/
theorem BurstOf.seen {b cc : List UInt8} {bit : Int} {mask : BitVec 32} (h : BurstOf b bit mask.toNat cc) (hne : cc ≠ b) : sum cc ≠ sum b := by
  by_cases hb : 0 ≤ bit ∧ bit < 8 * (b.length : Int)
  · obtain ⟨fr, rfl⟩ := Int.eq_ofNat_of_zero_le hb.1
    have hcase : ∃ t, t < 32 ∧ mask.toNat.testBit t = true ∧ fr + t < 8 * b.length := by
      apply Classical.byContradiction
      intro hn
      apply hne
      refine h.one (c2 := b) ⟨rfl, fun j hj => ?_⟩
      have : (decide (0 ≤ (fr : Int) ∧ (fr : Int) ≤ (j : Int)) && mask.toNat.testBit (j - (fr : Int).toNat)) = false := by
        by_cases h1 : fr ≤ j
        · cases hm : mask.toNat.testBit (j - fr) with
          | false => simp [hm]
          | true =>
            exfalso
            apply hn
            refine ⟨j - fr, ?_, hm, by omega⟩
            apply Classical.byContradiction
            intro h32
            have := mask.isLt
            rw [Nat.testBit_lt_two_pow (Nat.lt_of_lt_of_le this (Nat.pow_le_pow_right (by omega) (show 32 ≤ j - fr by omega)))] at hm
            cases hm
        · have h2 : ¬ (0 ≤ (fr : Int) ∧ (fr : Int) ≤ (j : Int)) := by omega
          rw [decide_eq_false h2, Bool.false_and]
      rw [this, Bool.xor_false]
    obtain ⟨t, ht, hm, hin⟩ := hcase
    refine (burst b cc fr mask.toNat h.1.symm (by omega) (fun j hj => ?_) t ht hm hin).symm
    rw [h.2 j hj]
    have e0 : decide (0 ≤ (fr : Int) ∧ (fr : Int) ≤ (j : Int)) = decide (fr ≤ j) := by rw [decide_eq_decide]; omega
    rw [e0, Int.toNat_natCast]
    congr 2
    by_cases h32 : j < fr + 32
    · simp [h32]
    · have := mask.isLt
      by_cases h1 : fr ≤ j
      · rw [Nat.testBit_lt_two_pow (Nat.lt_of_lt_of_le this (Nat.pow_le_pow_right (by omega) (show 32 ≤ j - fr by omega)))]
        simp
      · have : j < fr + 32 := by omega
        exact absurd this h32
  · exact absurd (h.one (BurstOf.none (by omega))) hne

/-- what holds at the head of the loop -/
structure BurI (w : World) (b : List UInt8) (n fr mask i : Nat) (v : Value) (wr : World) : Prop where
  own : ∃ cc, Flip b cc fr mask i ∧ wr.ownsRow w.heap.size 5 1 v n (cc.map b8)
  grow : Grow w wr
def BurTo (w : World) (b : List UInt8) (bit : Int) (mask : Nat) (e : Ending) (w' : World) : Prop := ∃ r cc, e = .returned r ∧ BurstOf b bit mask cc ∧ w'.ownsRow w.heap.size 5 1 r b.length (cc.map b8) ∧ Grow w w'

set_option maxRecDepth 100000 in
set_option maxHeartbeats 2000000 in
theorem Burst_any (w : World) (B : Nat) (A : Option Addr) (n c : Nat) (b : List UInt8) (bit : Int) (mask : BitVec 32) (hR : BytesAt w B A n b) (hB : B ≤ w.heap.size) (hn : n ≤ 67108864) (h1 : -9223372036854775808 ≤ bit) (h2 : bit ≤ 9223372036854775807) :
    Calls Tryd.prog 22 #[.slice A n c, .int .i64 bit, .int .u32 (mask.toNat : Int)] w (BurTo w b bit mask.toNat) := by
  have hlen := hR.len
  have Hlen := Lib.hid hlen
  go_enter Tryd.func22, Tryd.ntmps22
  go_wp2_with fail
  refine (CloneBytes_any w B A n c b hR hB (by omega)).mono ?_
  rintro e w1 ⟨r, rfl, hown, hg⟩
  rw [hlen] at hown
  clear hlen
  by_cases hb : 0 ≤ bit ∧ bit < 8 * (n : Int)
  · obtain ⟨fr, rfl⟩ := Int.eq_ofNat_of_zero_le hb.1
    have hfr : fr < 8 * n := by omega
    obtain ⟨m0, hm0⟩ : ∃ m0, m0 = mask.toNat := ⟨_, rfl⟩
    have hmb : m0 < 4294967296 := by rw [hm0]; exact mask.isLt
    have hslot : (mask.toNat : Int) = ((m0 / 2 ^ 0 : Nat) : Int) := by rw [hm0]; simp
    rw [hslot]
    obtain ⟨g, cap, rfl, hgl, -, hnc2, hcap⟩ := own_slice hown (by omega)
    have hI0 : BurI w b n fr m0 0 _ w1 := ⟨⟨b, Flip.zero _ _ _, hown⟩, hg⟩
    have Hm0 := Lib.hid hm0
    clear hb hm0 hown hg hslot
    go_wp2
    go_loopw [1, 2] (fun v1 v2 wr => ∃ i : Nat, fr + i ≤ 8 * n ∧ v1 = .int .i64 ((fr : Int) + (i : Int)) ∧ v2 = .int .u32 ((m0 / 2 ^ i : Nat) : Int) ∧ BurI w b n fr m0 i (.slice (some ⟨g, 0, none⟩) n cap) wr) (fun v1 _ _ => 8 * n - (intOf v1).toNat)
    case atStart => exact ⟨0, by omega, by go_num, by simp, hI0⟩
    case round =>
      clear hI0
      obtain ⟨i, hi, rfl, rfl, hI⟩ := hrel
      obtain ⟨cc, hfl, hown⟩ := hI.own
      obtain ⟨mi, hmi⟩ : ∃ mi, mi = m0 / 2 ^ i := ⟨_, rfl⟩
      have hmi2 : mi ≤ m0 := by rw [hmi]; exact Nat.div_le_self _ _
      rw [← hmi]
      have Hmi := Lib.hid hmi
      clear hmi
      by_cases hz : mi = 0
      · have d1 : decide ((0 : Int) < (mi : Int)) = false := decide_eq_false (by omega)
        have d0 : decide (0 < mi) = false := decide_eq_false (by omega)
        have Hbo := Lib.hid (BurstOf.flip hfl (Or.inl (Hmi.out.symm.trans hz)))
        have Hown := Lib.hid hown
        clear hz hown
        go_wp2
        go_ret
        exact ⟨_, cc, rfl, by rw [← Hm0.out]; exact Hbo.out, by rw [Hlen.out]; exact Hown.out, hI.grow⟩
      · have d1 : decide ((0 : Int) < (mi : Int)) = true := decide_eq_true (by omega)
        have d0 : decide (0 < mi) = true := decide_eq_true (by omega)
        by_cases hin : fr + i < 8 * n
        · have d2 : decide ((fr : Int) + (i : Int) < 8 * (n : Int)) = true := decide_eq_true (by omega)
          obtain ⟨q, Hq⟩ : ∃ q, Hid ((fr + i) / 8 = q) := ⟨_, Lib.hid rfl⟩
          obtain ⟨rr, Hr⟩ : ∃ rr, Hid ((fr + i) % 8 = rr) := ⟨_, Lib.hid rfl⟩
          have hqn : q < n := by rw [← Hq.out]; omega
          have hr8 : rr < 8 := by rw [← Hr.out]; omega
          have e2 : IntKind.i64.wrap (((fr : Int) + (i : Int)).tdiv 8) = (q : Int) := by rw [← Hq.out, IntWalk.i64_in _ (by rw [Int.tdiv_eq_ediv_of_nonneg (by omega)]; omega), Int.tdiv_eq_ediv_of_nonneg (by omega)]; rfl
          have e3 : ((fr : Int) + (i : Int)).tmod 8 = (rr : Int) := by rw [← Hr.out, Int.tmod_eq_emod_of_nonneg (by omega)]; rfl
          obtain ⟨x, hx⟩ : ∃ x, cc[q]? = some x := ⟨_, List.getElem?_eq_getElem (by rw [hfl.len, Hlen.out]; exact hqn)⟩
          have hcx : wr.cell? ⟨g, q, none⟩ = some (.int .u8 (x.toNat : Int)) := by rw [hown.cellAt _ (by omega), List.getElem?_map, hx]; rfl
          have hfx := hown.frozenAt q
          have Hx := Lib.hid hx
          have Hfl := Lib.hid hfl
          have Hown := Lib.hid hown
          obtain ⟨y, hy, e4⟩ := flip_byte x rr hr8
          have Hy := Lib.hid hy
          clear hx hfl hown hy
          have hti : m0.testBit i = mi.testBit 0 := by rw [Hmi.out, Nat.testBit_div_two_pow, Nat.zero_add]
          have hnx : m0 / 2 ^ (i + 1) = mi / 2 := by rw [Hmi.out, Nat.pow_succ, Nat.div_div_eq_div_mul]
          have Hnx := Lib.hid hnx
          clear hnx
          cases hbt : mi.testBit 0 with
          | true =>
            have e5 : bits .and .u32 (mi : Int) 1 = 1 := by
              have h := and1_u32 mi (by omega)
              rw [hbt] at h
              simpa using h
            have e6 : bits .xor .u8 (x.toNat : Int) (2 ^ rr % 256) = (y.toNat : Int) := by
              rw [← e4]
              simp [IntKind.wrap, IntKind.bits, IntKind.signed]
            have Hti := Lib.hid (hti.trans hbt)
            clear hbt hti e4
            go_wp2
            go_still_tail 13, (by kernel_rfl)
            change wpList _ _ _ _ _ wr.drew
            go_wp2
            go_roundw
            case rel =>
              refine ⟨i + 1, by omega, by go_num, by rw [Hnx.out]; go_num, ⟨cc.set q y, ?_, ?_⟩, (hI.grow.setCell (p := ⟨g, q, none⟩) hgl _).drew⟩
              · have h := Hfl.out.step (x := x) (y := y) Hti.out (by rw [Hq.out]; exact Hx.out) (by rw [Hr.out]; exact Hy.out)
                rw [Hq.out] at h
                exact h
              · have h := (Hown.out.stored q (b8 y)).1
                rw [← List.map_set] at h
                exact h
            case measure => simp [intOf]; omega
          | false =>
            have e5 : bits .and .u32 (mi : Int) 1 = 0 := by
              have e := u32_and_nat mi 1 (by omega) (by omega)
              rw [show ((1 : Nat) : Int) = 1 from rfl] at e
              rw [Nat.testBit_zero] at hbt
              rw [e, Nat.and_one_is_mod]
              have h2 : ¬ mi % 2 = 1 := by simpa using hbt
              omega
            have e6 : bits .xor .u8 (x.toNat : Int) 0 = (x.toNat : Int) := by
              have e := u8_xor_nat x.toNat 0 x.toNat_lt (by omega)
              rw [Nat.xor_zero] at e
              exact e
            have Hti := Lib.hid (hti.trans hbt)
            clear hbt hti e4
            go_wp2
            go_still_tail 13, (by kernel_rfl)
            change wpList _ _ _ _ _ wr.drew
            go_wp2
            go_roundw
            case rel =>
              refine ⟨i + 1, by omega, by go_num, by rw [Hnx.out]; go_num, ⟨cc, Hfl.out.skip Hti.out, ?_⟩, (hI.grow.setCell (p := ⟨g, q, none⟩) hgl _).drew⟩
              have h := (Hown.out.stored q (b8 x)).1
              rw [← List.map_set, show cc.set q x = cc from by
                have h2 := Hx.out
                obtain ⟨h3, h4⟩ := List.getElem?_eq_some_iff.1 h2
                rw [← h4, List.set_getElem_self]] at h
              exact h
            case measure => simp [intOf]; omega
        · have d2 : decide ((fr : Int) + (i : Int) < 8 * (n : Int)) = false := decide_eq_false (by omega)
          have Hbo := Lib.hid (BurstOf.flip hfl (Or.inr (by rw [Hlen.out]; omega)))
          have Hown := Lib.hid hown
          clear hz hown
          go_wp2
          go_ret
          exact ⟨_, cc, rfl, by rw [← Hm0.out]; exact Hbo.out, by rw [Hlen.out]; exact Hown.out, hI.grow⟩
  · have Hno := Lib.hid (BurstOf.none (b := b) (bit := bit) (mask := mask.toNat) (by rw [Hlen.out]; omega))
    have Hown := Lib.hid hown
    have hmb : mask.toNat < 4294967296 := mask.isLt
    clear hown
    go_wp2
    go_loopw [1, 2] (fun v1 v2 wr => v1 = .int .i64 bit ∧ v2 = .int .u32 (mask.toNat : Int) ∧ w1 = wr) (fun _ _ _ => 0)
    case atStart => exact ⟨rfl, rfl, rfl⟩
    case round =>
      obtain ⟨rfl, rfl, rfl⟩ := hrel
      generalize mask.toNat = m0 at *
      by_cases hz : m0 = 0
      · have d1 : decide ((0 : Int) < (m0 : Int)) = false := decide_eq_false (by omega)
        have d0 : decide (0 < m0) = false := decide_eq_false (by omega)
        clear hz
        go_wp2
        go_ret
        exact ⟨_, b, rfl, Hno.out, by rw [Hlen.out]; exact Hown.out, hg⟩
      · have d1 : decide ((0 : Int) < (m0 : Int)) = true := decide_eq_true (by omega)
        have d0 : decide (0 < m0) = true := decide_eq_true (by omega)
        by_cases hlo : bit < 0
        · have d2 : decide ((0 : Int) ≤ bit) = false := decide_eq_false (by omega)
          go_wp2
          go_ret
          exact ⟨_, b, rfl, Hno.out, by rw [Hlen.out]; exact Hown.out, hg⟩
        · have d2 : decide ((0 : Int) ≤ bit) = true := decide_eq_true (by omega)
          have d3 : decide (bit < 8 * (n : Int)) = false := decide_eq_false (by omega)
          go_wp2
          go_ret
          exact ⟨_, b, rfl, Hno.out, by rw [Hlen.out]; exact Hown.out, hg⟩
end Go.Proofs.YtcimkoehcdfjdaaDoor
