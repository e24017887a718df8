/-
  The walk of mudlarkref03's Burst: the document's burst.
-/
import Derived.Test.YtbbjeokecgnfpaaGreatFrameBurst
namespace Go.Proofs.YtbbjeokecgnfpaaGreat
open Go.RowKit CrcM

set_option maxRecDepth 100000 in
set_option maxHeartbeats 2000000 in
theorem rBurst_any (w : World) (B : Nat) (A : Option Addr) (n c : Nat) (b : List UInt8) (bit : Int) (mask : BitVec 32) (hR : BytesAt w B A n b) (hB : B ≤ w.heap.size) (hn : n ≤ 67108864) (h1 : -9223372036854775808 ≤ bit) (h2 : bit ≤ 9223372036854775807) :
    Calls Tryz.prog 19 #[.slice A n c, .int .i64 bit, .int .u32 (mask.toNat : Int)] w (BurTo w b bit mask.toNat) := by
  have bytesTy : AppTy Tryz.prog 26 5 (.int .u8 0) 1 1 := AppTy.mk' Tryz.underlying26 (by kernel_rfl) rfl (by decide)
  have hlen := hR.len
  have Hlen := Lib.hid hlen
  have hG0 : Grow w (w.alloc (.cells #[] 5)) := Grow.alloc _ _
  have hown0 : (w.alloc (.cells #[] 5)).ownsRow w.heap.size 5 1 (.slice (some ⟨w.heap.size, 0, none⟩) 0 0) 0 [] :=
    ⟨rfl, Or.inr ⟨w.heap.size, 0, #[], rfl, Nat.le_refl _, heap_alloc_new _ _, Nat.le_refl _, Nat.zero_le _, rfl, rfl⟩⟩
  have hR0 := hR.below (Below.mono hG0 hB)
  go_enter Tryz.func19, Tryz.ntmps19
  go_wp2_with (at_builtin; refine wpList_append_reads _ rfl (.tmp 9) (.tmp 10) rfl bytesTy rfl hown0 rfl hR0 (b8_one _) (by simp only [maxLen]; omega) (by omega) (by simp) ?_; intro r w1 hown hgr hat)
  have hg : Grow w w1 := ((Below.refl w.heap.size w).alloc (Nat.le_refl _) _).grown hgr (by simp) (fun k e => by cases e; exact Nat.le_refl _)
  simp only [Nat.zero_add, List.nil_append] at hown
  clear hgr hat hown0 hR0 hlen
  by_cases hb : 0 ≤ bit ∧ bit < 8 * (n : Int)
  · obtain ⟨fr, rfl⟩ := Int.eq_ofNat_of_zero_le hb.1
    have hfr : fr < 8 * n := by omega
    obtain ⟨m0, hm0⟩ : ∃ m0, m0 = mask.toNat := ⟨_, rfl⟩
    have hmb : m0 < 4294967296 := by rw [hm0]; exact mask.isLt
    have Hm0 := Lib.hid hm0
    rw [← hm0]
    obtain ⟨g, cap, rfl, hgl, -, hnc2, hcap⟩ := own_slice hown (by omega)
    have hI0 : BurI w b n fr m0 0 _ w1 := ⟨⟨b, Flip.zero _ _ _, hown⟩, hg⟩
    clear hb hm0 hown hg
    go_wp2
    go_loopw [1, 8] (fun v1 v8 wr => ∃ i : Nat, i ≤ 32 ∧ fr + i ≤ 8 * n ∧ v1 = .int .i64 ((fr : Int) + (i : Int)) ∧ v8 = .int .i64 (i : Int) ∧ BurI w b n fr m0 i (.slice (some ⟨g, 0, none⟩) n cap) wr) (fun v1 _ _ => 8 * n - (intOf v1).toNat)
    case atStart => exact ⟨0, by omega, by omega, by go_num, rfl, hI0⟩
    case round =>
      clear hI0
      obtain ⟨i, hi32, hi, rfl, rfl, hI⟩ := hrel
      obtain ⟨cc, hfl, hown⟩ := hI.own
      have d0 : decide ((0 : Int) ≤ (fr : Int) + (i : Int)) = true := decide_eq_true (by omega)
      by_cases hlt : i < 32
      · by_cases hin : fr + i < 8 * n
        · have d2 : decide ((fr : Int) + (i : Int) < 8 * (n : Int)) = true := decide_eq_true (by omega)
          obtain ⟨mi, hmi⟩ : ∃ mi, mi = m0 / 2 ^ i := ⟨_, rfl⟩
          have hmi2 : mi ≤ m0 := by rw [hmi]; exact Nat.div_le_self _ _
          obtain ⟨q, Hq⟩ : ∃ q, Hid ((fr + i) / 8 = q) := ⟨_, Lib.hid rfl⟩
          obtain ⟨rr, Hr⟩ : ∃ rr, Hid ((fr + i) % 8 = rr) := ⟨_, Lib.hid rfl⟩
          have hqn : q < n := by rw [← Hq.out]; omega
          have hr8 : rr < 8 := by rw [← Hr.out]; omega
          have e2 : IntKind.i64.wrap (((fr : Int) + (i : Int)).tdiv 8) = (q : Int) := by rw [← Hq.out, IntWalk.i64_in _ (by rw [Int.tdiv_eq_ediv_of_nonneg (by omega)]; omega), Int.tdiv_eq_ediv_of_nonneg (by omega)]; rfl
          have e3 : ((fr : Int) + (i : Int)).tmod 8 = (rr : Int) := by rw [← Hr.out, Int.tmod_eq_emod_of_nonneg (by omega)]; rfl
          obtain ⟨x, hx⟩ : ∃ x, cc[q]? = some x := ⟨_, List.getElem?_eq_getElem (by rw [hfl.len, Hlen.out]; exact hqn)⟩
          have hcx : wr.cell? ⟨g, q, none⟩ = some (.int .u8 (x.toNat : Int)) := by rw [hown.cellAt _ (by omega), List.getElem?_map, hx]; rfl
          have hfx := hown.frozenAt q
          have Hx := Lib.hid hx
          have Hfl := Lib.hid hfl
          have Hown := Lib.hid hown
          obtain ⟨y, hy, e4⟩ := flip_byte x rr hr8
          have Hy := Lib.hid hy
          have hti : m0.testBit i = mi.testBit 0 := by rw [hmi, Nat.testBit_div_two_pow, Nat.zero_add]
          have hmI : ((m0 : Int) / 2 ^ i) = (mi : Int) := by rw [hmi, Int.natCast_ediv, Int.natCast_pow]; rfl
          have Hmi := Lib.hid hmi
          clear hx hfl hown hy hmi
          cases hbt : mi.testBit 0 with
          | true =>
            have e5 : bits .and .u32 (mi : Int) 1 = 1 := by
              have h := and1_u32 mi (by omega)
              rw [hbt] at h
              simpa using h
            have e6 : bits .xor .u8 (x.toNat : Int) (2 ^ rr % 256) = (y.toNat : Int) := by
              rw [← e4]
              simp [IntKind.wrap, IntKind.bits, IntKind.signed]
            have d7 : (bits .and .u32 ((m0 : Int) / 2 ^ i) 1 == 1) = true := by rw [hmI, e5]; rfl
            have Hti := Lib.hid (hti.trans hbt)
            clear hbt hti e4 hmI e5
            go_wp2
            go_still_tail 13, (by kernel_rfl)
            change wpList _ _ _ _ _ wr.drew
            go_wp2
            go_roundw
            case rel =>
              refine ⟨i + 1, by omega, by omega, by go_num, by go_num, ⟨cc.set q y, ?_, ?_⟩, (hI.grow.setCell (p := ⟨g, q, none⟩) hgl _).drew⟩
              · have h := Hfl.out.step (x := x) (y := y) Hti.out (by rw [Hq.out]; exact Hx.out) (by rw [Hr.out]; exact Hy.out)
                rw [Hq.out] at h
                exact h
              · have h := (Hown.out.stored q (b8 y)).1
                rw [← List.map_set] at h
                exact h
            case measure => simp [intOf]; omega
          | false =>
            have e5 : bits .and .u32 (mi : Int) 1 = 0 := by
              have e := u32_and_nat mi 1 (by omega) (by omega)
              rw [show ((1 : Nat) : Int) = 1 from rfl] at e
              rw [Nat.testBit_zero] at hbt
              rw [e, Nat.and_one_is_mod]
              have h2 : ¬ mi % 2 = 1 := by simpa using hbt
              omega
            have d7 : (bits .and .u32 ((m0 : Int) / 2 ^ i) 1 == 1) = false := by rw [hmI, e5]; rfl
            have Hti := Lib.hid (hti.trans hbt)
            clear hbt hti e4 hmI e5
            go_wp2
            go_roundw
            case rel => exact ⟨i + 1, by omega, by omega, by go_num, by go_num, ⟨cc, Hfl.out.skip Hti.out, Hown.out⟩, hI.grow⟩
            case measure => simp [intOf]; omega
        · have d2 : decide ((fr : Int) + (i : Int) < 8 * (n : Int)) = false := decide_eq_false (by omega)
          have Hbo := Lib.hid (BurstOf.flip hfl (Or.inr (by rw [Hlen.out]; omega)))
          have Hown := Lib.hid hown
          clear hown
          go_wp2
          go_ret
          exact ⟨_, cc, rfl, by rw [← Hm0.out]; exact Hbo.out, by rw [Hlen.out]; exact Hown.out, hI.grow⟩
      · obtain rfl : i = 32 := by omega
        have Hbo := Lib.hid (BurstOf.flip hfl (Or.inl (Nat.div_eq_of_lt hmb)))
        have Hown := Lib.hid hown
        clear hown
        go_wp2
        go_ret
        exact ⟨_, cc, rfl, by rw [← Hm0.out]; exact Hbo.out, by rw [Hlen.out]; exact Hown.out, hI.grow⟩
  · have Hno := Lib.hid (BurstOf.none (b := b) (bit := bit) (mask := mask.toNat) (by rw [Hlen.out]; omega))
    obtain ⟨A9, c9, rfl, -, -, -⟩ := own_reads hown
    have Hown := Lib.hid hown
    clear hown
    generalize mask.toNat = m0 at *
    go_wp2
    go_loopw [1, 8] (fun v1 v8 wr => v1 = .int .i64 bit ∧ v8 = .int .i64 0 ∧ w1 = wr) (fun _ _ _ => 0)
    case atStart => exact ⟨rfl, rfl, rfl⟩
    case round =>
      obtain ⟨rfl, rfl, rfl⟩ := hrel
      by_cases hlo : bit < 0
      · have d2 : decide ((0 : Int) ≤ bit) = false := decide_eq_false (by omega)
        go_wp2
        go_ret
        exact ⟨_, b, rfl, Hno.out, by rw [Hlen.out]; exact Hown.out, hg⟩
      · have d2 : decide ((0 : Int) ≤ bit) = true := decide_eq_true (by omega)
        have d3 : decide (bit < 8 * (n : Int)) = false := decide_eq_false (by omega)
        go_wp2
        go_ret
        exact ⟨_, b, rfl, Hno.out, by rw [Hlen.out]; exact Hown.out, hg⟩
end Go.Proofs.YtbbjeokecgnfpaaGreat
