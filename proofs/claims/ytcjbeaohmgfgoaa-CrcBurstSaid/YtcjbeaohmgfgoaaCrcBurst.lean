/-
  mudlarklaw01.CrcBurst answers true: rows of bytes of one length that differ in one run of at most 32 bits have sums that differ. The walk of the law's text.
-/
import Derived.StillTailTactics
import Derived.BigRegion
import Derived.Test.YtcjbeaohmgfgoaaAppend
import Derived.Test.YtcjbeaohmgfgoaaCrcAwake
import Derived.Test.YtcjbeaohmgfgoaaPick
namespace Go.Proofs.Ytcjbeaohmgfgoaa
open Go.RowKit CrcM

theorem bytesTy : AppTy Try.prog 22 5 (.int .u8 0) 1 1 := AppTy.mk' Try.underlying22 (by kernel_rfl) rfl (by decide)

/-- what holds at the head of the loop that turns the bits -/
structure BurstInv (w : World) (l : List UInt8) (base g n cap fr : Nat) (mask : W32) (i : Nat) (s : Bool) (cc : List UInt8) (wr : World) : Prop where
  le : i ≤ 32
  same : s = false ↔ ∃ t, t < i ∧ mask.toNat.testBit t = true
  flip : Flip l cc fr mask.toNat i
  inside : fr + i ≤ 8 * l.length
  own : wr.ownsRow base 5 1 (.slice (some ⟨g, 0, none⟩) n cap) n (cc.map b8)
  below : Below w.heap.size w wr

theorem BurstInv.bytes {w : World} {l : List UInt8} {base g n cap fr : Nat} {mask : W32} {i : Nat} {s : Bool} {cc : List UInt8} {wr : World} (h : BurstInv w l base g n cap fr mask i s cc wr) :
    BytesAt wr wr.heap.size (some ⟨g, 0, none⟩) n cc := ReadsAt.of_own h.own
theorem sums_part {a b : W32} (h : a ≠ b) : ((a.toNat : Int) != (b.toNat : Int)) = true := by
  rw [bne_iff_ne]
  intro e
  exact h (BitVec.eq_of_toNat_eq (by omega))

theorem BurstInv.skip {w : World} {l : List UInt8} {base g n cap fr : Nat} {mask : W32} {i : Nat} {s : Bool} {cc : List UInt8} {wr : World} (h : BurstInv w l base g n cap fr mask i s cc wr) (hi : i < 32)
    (hm : mask.toNat.testBit i = false) (hin : fr + i < 8 * l.length) : BurstInv w l base g n cap fr mask (i + 1) s cc wr :=
  ⟨by omega, by
    rw [h.same]
    constructor
    · rintro ⟨t, ht, hb⟩; exact ⟨t, by omega, hb⟩
    · rintro ⟨t, ht, hb⟩
      by_cases e : t = i
      · subst e; rw [hm] at hb; cases hb
      · exact ⟨t, by omega, hb⟩, h.flip.skip hm, by omega, h.own, h.below⟩
theorem BurstInv.step {w : World} {l : List UInt8} {base g n cap fr : Nat} {mask : W32} {i : Nat} {s : Bool} {cc : List UInt8} {wr : World} (h : BurstInv w l base g n cap fr mask i s cc wr) (hi : i < 32)
    (hm : mask.toNat.testBit i = true) {q r : Nat} (hq : (fr + i) / 8 = q) (hr : (fr + i) % 8 = r) (hin : fr + i < 8 * l.length) {x y : UInt8} (hx : cc[q]? = some x) (hy : y.toNat = x.toNat ^^^ 2 ^ r)
    (hg : w.heap.size ≤ g) : BurstInv w l base g n cap fr mask (i + 1) false (cc.set q y) (wr.setCell ⟨g, q, none⟩ (.int .u8 (y.toNat : Int))).drew := by
  subst hq hr
  refine ⟨by omega, ⟨fun _ => ⟨i, by omega, hm⟩, fun _ => rfl⟩, h.flip.step hm hx hy, by omega, ?_, (h.below.setCell (p := ⟨g, _, none⟩) hg _).drew⟩
  have := (h.own.stored ((fr + i) / 8) (b8 y)).1
  rw [← List.map_set] at this
  exact this

set_option maxRecDepth 100000 in
set_option maxHeartbeats 1000000 in
theorem burst_walk (w : World) (B : Nat) (A : Option Addr) (n c : Nat) (l : List UInt8) (at_ : Int) (mask : W32) (hR : BytesAt w B A n l) (hB : B ≤ w.heap.size) (hnc : n ≤ c) (hc : c ≤ maxLen)
    (ha1 : -9223372036854775808 ≤ at_) (ha2 : at_ ≤ 9223372036854775807) :
    Calls Try.prog 3 #[.slice A n c, .int .i64 at_, .int .u32 (mask.toNat : Int)] w fun e w' => e = .returned (.bool true) ∧ Below w.heap.size w w' := by
  unfold maxLen at hc
  by_cases h1 : 20000 < n
  · go_enter Try.func3, Try.ntmps3
    go_wp2_with (go_at_call 11; refine (awake01_any _).mono ?_; rintro e w1 ⟨rfl, hb1⟩)
    go_ret
    exact ⟨rfl, hb1⟩
  · by_cases h2 : n = 0
    · subst h2
      go_enter Try.func3, Try.ntmps3
      go_wp2_with (go_at_call 11; refine (awake01_any _).mono ?_; rintro e w1 ⟨rfl, hb1⟩)
      go_ret
      exact ⟨rfl, hb1⟩
    · have h2' : ((n : Int) == 0) = false := by simpa using h2
      by_cases h3 : mask.toNat = 0
      · have h3' : ((mask.toNat : Int) == 0) = true := by simpa using h3
        have H3 := Lib.hid h3
        clear h3
        go_enter Try.func3, Try.ntmps3
        go_wp2_with (go_at_call 11; refine (awake01_any _).mono ?_; rintro e w1 ⟨rfl, hb1⟩)
        go_ret
        exact ⟨rfl, hb1⟩
      · have h3' : ((mask.toNat : Int) == 0) = false := by simpa using h3
        have h2p : 0 < n := by omega
        have hpk := pickI_nonneg at_ (8 * (n : Int))
        have hpk2 := pickI_lt at_ (8 * (n : Int)) (by omega)
        obtain ⟨fr, hfr⟩ := Int.eq_ofNat_of_zero_le hpk
        rw [hfr] at hpk2
        have Hfr := Lib.hid hfr
        clear hfr hpk
        go_enter Try.func3, Try.ntmps3
        go_wp2_with (first | (go_at_call 11; refine (awake01_any _).mono ?_; rintro e w1 ⟨rfl, hb1⟩) | (at_builtin; refine wpList_append_reads _ rfl (.tmp 25) (.tmp 26) rfl bytesTy (v := .slice (some ⟨w1.heap.size, 0, none⟩) 0 0) rfl (World.ownsRow_made w1 #[] 0 (Nat.le_refl _) (by decide) rfl) rfl (((hR.more hB).below hb1).below ((Below.refl _ _).alloc hb1.size _)) (b8_one l) (by simp only [maxLen]; omega) (by omega) (by simp) ?_; intro v' w2 hown hgrow hat; obtain ⟨g, cap, rfl, hg, hg2, hncap, hcap⟩ := own_slice hown (by omega)) | (go_at_call 12; refine (Pick_nat _ _ fr _ Hfr.out ha1 ha2 (by omega)).mono ?_; rintro e w3 ⟨rfl, rfl⟩))
        simp only [Nat.zero_add, List.nil_append] at hown hncap
        have hI : BurstInv w l w1.heap.size g n cap fr mask 0 true l w2 := ⟨by omega, by simp, Flip.zero l fr _, by rw [hR.len]; omega, hown, (hb1.alloc hb1.size _).grown hgrow (by have := hb1.size; simp; omega) (fun k hk => by simp [Value.ownBlock] at hk; subst hk; have := hb1.size; omega)⟩
        go_loopw [9, 10] (fun v9 v10 wr => ∃ (i : Nat) (s : Bool) (cc : List UInt8), v10 = .int .i64 (i : Int) ∧ v9 = .bool s ∧ BurstInv w l w1.heap.size g n cap fr mask i s cc wr) (fun _ v10 _ => 32 - (intOf v10).toNat)
        case atStart => exact ⟨0, true, l, rfl, rfl, hI⟩
        case round =>
          clear hI hgrow hown
          obtain ⟨i, s, cc, rfl, rfl, hI⟩ := hrel
          have hi32 := hI.le
          by_cases hi : i < 32
          · by_cases hin : (fr : Int) + (i : Int) < 8 * (n : Int)
            · have hbit := maskbit mask i
              obtain ⟨q, Hq⟩ : ∃ q, Hid ((fr + i) / 8 = q) := ⟨_, Lib.hid rfl⟩
              obtain ⟨r, Hr⟩ : ∃ r, Hid ((fr + i) % 8 = r) := ⟨_, Lib.hid rfl⟩
              have hqn : q < n := by rw [← Hq.out]; omega
              have hr8 : r < 8 := by rw [← Hr.out]; omega
              have e1 : IntKind.i64.wrap ((fr : Int) + (i : Int)) = (fr : Int) + (i : Int) := IntWalk.i64_in _ (by omega)
              have e2 : IntKind.i64.wrap (((fr : Int) + (i : Int)).tdiv 8) = (q : Int) := by rw [← Hq.out, IntWalk.i64_in _ (by rw [Int.tdiv_eq_ediv_of_nonneg (by omega)]; omega), Int.tdiv_eq_ediv_of_nonneg (by omega)]; rfl
              have e3 : ((fr : Int) + (i : Int)).tmod 8 = (r : Int) := by rw [← Hr.out, Int.tmod_eq_emod_of_nonneg (by omega)]; rfl
              have hql : q < cc.length := by rw [hI.flip.len, hR.len]; exact hqn
              obtain ⟨x, hx⟩ : ∃ x, cc[q]? = some x := ⟨_, List.getElem?_eq_getElem hql⟩
              have hcx : wr.cell? ⟨g, q, none⟩ = some (.int .u8 (x.toNat : Int)) := by rw [hI.own.cellAt _ (by omega), List.getElem?_map, hx]; rfl
              have hfx := hI.own.frozenAt q
              have Hx := Lib.hid hx
              clear hx
              obtain ⟨y, hy, e4⟩ := flip_byte x r hr8
              have Hy := Lib.hid hy
              clear hy
              cases hm : mask.toNat.testBit i
              · rw [hm] at hbit
                have Hm := Lib.hid hm
                clear hm
                go_wp2
                go_roundw
                case rel => exact ⟨i + 1, s, cc, by go_num, rfl, hI.skip hi Hm.out (by rw [hR.len]; omega)⟩
                case measure => simp [intOf]; omega
              · rw [hm] at hbit
                have Hm := Lib.hid hm
                clear hm
                go_wp2
                go_still_tail 19, (by kernel_rfl)
                change wpList _ _ _ _ _ wr.drew
                go_wp2
                go_roundw
                case rel => exact ⟨i + 1, false, cc.set q y, by go_num, rfl, hI.step hi Hm.out Hq.out Hr.out (by rw [hR.len]; omega) Hx.out Hy.out (by have := hb1.size; omega)⟩
                case measure => simp [intOf]; omega
            · have he : i = 32 ∨ 8 * l.length ≤ fr + i := .inr (by rw [hR.len]; omega)
              cases s with
              | true =>
                go_wp2
                go_ret
                exact ⟨rfl, hI.below⟩
              | false =>
                obtain ⟨t, ht, hmt⟩ := hI.same.1 rfl
                have hneB := sums_part (hI.flip.ends (by have := hI.inside; omega) hI.le he t ht hmt hI.inside)
                have Hmt := Lib.hid hmt
                clear hmt he
                go_wp2_with fail
                refine (Sum_new _ _ _ _ _ l ((hR.more hB).below hI.below) hI.below.size hnc hc).mono ?_
                rintro e w5 ⟨rfl, hb5⟩
                go_wp2_with fail
                refine (Sum_new _ _ _ _ _ cc (hI.bytes.below hb5) hb5.size (by simpa using hncap) hcap).mono ?_
                rintro e w6 ⟨rfl, hb6⟩
                go_wp2
                go_ret
                exact ⟨rfl, (hI.below.trans (hb5.mono hI.below.size)).trans (hb6.mono (Nat.le_trans hI.below.size hb5.size))⟩
          · obtain rfl : i = 32 := by omega
            have he : (32 : Nat) = 32 ∨ 8 * l.length ≤ fr + 32 := .inl rfl
            cases s with
            | true =>
              go_wp2
              go_ret
              exact ⟨rfl, hI.below⟩
            | false =>
              obtain ⟨t, ht, hmt⟩ := hI.same.1 rfl
              have hneB := sums_part (hI.flip.ends (by have := hI.inside; omega) hI.le he t ht hmt hI.inside)
              have Hmt := Lib.hid hmt
              clear hmt he
              go_wp2_with fail
              refine (Sum_new _ _ _ _ _ l ((hR.more hB).below hI.below) hI.below.size hnc hc).mono ?_
              rintro e w5 ⟨rfl, hb5⟩
              go_wp2_with fail
              refine (Sum_new _ _ _ _ _ cc (hI.bytes.below hb5) hb5.size (by simpa using hncap) hcap).mono ?_
              rintro e w6 ⟨rfl, hb6⟩
              go_wp2
              go_ret
              exact ⟨rfl, (hI.below.trans (hb5.mono hI.below.size)).trans (hb6.mono (Nat.le_trans hI.below.size hb5.size))⟩
end Go.Proofs.Ytcjbeaohmgfgoaa
