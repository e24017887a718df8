/-
  The walk of mudlarklaw03.FrameGets: what any bytes are the file of, or the error, and any burst in them, are what the document tells; they stay, what is told lies apart.
-/
import Derived.Test.YtbbjeokecgnfpaaGreatApartParts
import Derived.Test.YtbbjeokecgnfpaaGreatFrameRGet
import Derived.Test.YtbbjeokecgnfpaaGreatFrameRBurst
import Derived.Test.YtbbjeokecgnfpaaGreatApart
import Derived.Test.YtbbjeokecgnfpaaGreatFrameAwake
namespace Go.Proofs.YtbbjeokecgnfpaaGreat
open Go.RowKit WireM

/-- the parts that are got; none, if it is an error -/
def gotTs (b : List UInt8) : List PartM := (getB b).getD []
def gotErr (b : List UInt8) : Nat := match getB b with
  | none => 9
  | some _ => 0
theorem GetTo.all {w w' : World} {b : List UInt8} {e : Ending} (h : GetTo w b e w') : ∃ v vs, e = .returned (.tuple #[v, .int .i64 (gotErr b : Int)]) ∧ PartsOwn w.heap.size w' v (gotTs b) vs ∧ Grow w w' := by
  rcases h with ⟨ts, v, vs, h1, h2, h3, h4⟩ | ⟨h1, h2, h3⟩
  · refine ⟨v, vs, ?_, ?_, h4⟩
    · rw [gotErr, h1]
      exact h2
    · rw [gotTs, h1]
      exact h3
  · refine ⟨.slice none 0 0, [], ?_, ?_, h3⟩
    · rw [gotErr, h1]
      exact h2
    · rw [gotTs, h1]
      exact PartsOwn.nil _ _
theorem gotTs_le (b : List UInt8) : (gotTs b).length ≤ b.length ∧ ∀ t ∈ gotTs b, t.b.length ≤ b.length := by
  unfold gotTs
  cases h : getB b with
  | none => exact ⟨Nat.zero_le _, fun t ht => by cases ht⟩
  | some ts =>
    have h1 := get_one h
    have h2 : b.length = 8 + (bodyB ts).length := by rw [h1, fileB_len]
    have h3 := body_ge ts
    refine ⟨?_, fun t ht => ?_⟩
    · have : ∀ ts : List PartM, ts.length ≤ (bodyB ts).length := fun ts => by
        induction ts with
        | nil => simp
        | cons a r ih => simp only [bodyB, List.length_append, List.length_cons, partB]; omega
      have := this ts
      simp only [Option.getD_some]
      omega
    · have := part_le (show t ∈ ts from ht)
      omega

theorem PartsOwn.lower {B B2 : Nat} {w : World} {v : Value} {ts : List PartM} {vs : List Value} (h : PartsOwn B w v ts vs) (hB : B2 ≤ B) : PartsOwn B2 w v ts vs :=
  ⟨h.len, own_base h.own hB, fun j x t hx ht => own_base (h.each j x t hx ht) hB, h.dist⟩
theorem DistV.append {a b : List Value} (ha : DistV a) (hb : DistV b) (hab : ∀ (i j : Nat) (x y : Value) (k : Nat), a[i]? = some x → b[j]? = some y → x.ownBlock = some k → y.ownBlock ≠ some k) : DistV (a ++ b) := by
  intro i j v v' k hi hj hij h1 h2
  rw [List.getElem?_append] at hi hj
  split at hi <;> split at hj
  · exact ha i j v v' k hi hj hij h1 h2
  · exact hab _ _ v v' k hi hj h1 h2
  · exact hab _ _ v' v k hj hi h2 h1
  · exact hb _ _ v v' k hi hj (by omega) h1 h2

set_option maxRecDepth 100000 in
set_option maxHeartbeats 4000000 in
theorem fgets_walk (w : World) (A : Option Addr) (n c : Nat) (b : List UInt8) (bit : Int) (mask : BitVec 32) (hR : BytesAt w w.heap.size A n b) (hnc : n ≤ c) (hc : c ≤ maxLen) (h1 : -9223372036854775808 ≤ bit) (h2 : bit ≤ 9223372036854775807) :
    Calls Tryz.prog 4 #[.slice A n c, .int .i64 bit, .int .u32 (mask.toNat : Int)] w fun e w' => e = .returned (.bool true) ∧ Below w.heap.size w w' := by
  have HR := Lib.hid hR
  have hlen := Lib.hid hR.len
  clear hR
  by_cases hbig : 10000 < n
  · have d1 : decide ((10000 : Int) < (n : Int)) = true := decide_eq_true (by omega)
    go_enter Tryz.func4, Tryz.ntmps4
    go_wp2_with fail
    refine (awake03_any w).mono ?_
    rintro e w1 ⟨rfl, hg1⟩
    go_wp2
    go_ret
    exact ⟨rfl, hg1⟩
  · have d1 : decide ((10000 : Int) < (n : Int)) = false := decide_eq_false (by omega)
    obtain ⟨tsl, htsl⟩ := gotTs_le b
    rw [hlen.out] at tsl htsl
    have Htsl := Lib.hid htsl
    obtain ⟨er, her⟩ : ∃ er, er = gotErr b := ⟨_, rfl⟩
    obtain ⟨ts, hts⟩ : ∃ ts, ts = gotTs b := ⟨_, rfl⟩
    have Her := Lib.hid her
    have Hts := Lib.hid hts
    rw [← hts] at tsl Htsl
    have ee : ((er : Int) == (er : Int)) = true := by simp
    clear her hts htsl
    go_enter Tryz.func4, Tryz.ntmps4
    go_wp2_with fail
    refine (LentBytes_any w w.heap.size A n c b HR.out (Nat.le_refl _) (by omega)).mono ?_
    rintro e w1 ⟨rfl, hL1, hg1⟩
    have hg1 : Grow w w1 := hg1
    have hlt1 : w.heap.size < w1.heap.size := hL1.lt
    have hin1 : BytesAt w1 w1.heap.size (some ⟨w.heap.size, 0, none⟩) n b := by have h := hL1.bytes hlt1; rw [hlen.out] at h; exact h
    have HL1 := Lib.hid hL1
    have Hin1 := Lib.hid hin1
    have HR1 := Lib.hid (HR.out.below hg1)
    clear hL1 hin1
    go_wp2_with fail
    refine (Get_any w1 w1.heap.size _ n (n + 12) b Hin1.out (Nat.le_refl _) (by omega) (by unfold maxLen; omega) (by omega)).mono ?_
    intro e w2 hT2
    obtain ⟨v2, vs2, rfl, hP2, hg2⟩ := hT2.all
    rw [← Hts.out] at hP2
    rw [← Her.out]
    obtain ⟨A2, c2, rfl, h21, h22, -⟩ := own_reads hP2.own
    have HP2 := Lib.hid hP2
    clear hT2 hP2
    go_wp2_with fail
    refine (rGet_any w2 w.heap.size A n c b (HR1.out.below (Below.mono hg2 hg1.size)) (by have := hg1.size; have := hg2.size; omega) hnc hc (by omega)).mono ?_
    intro e w3 hT3
    obtain ⟨v3, vs3, rfl, hP3, hg3⟩ := hT3.all
    rw [← Hts.out] at hP3
    rw [← Her.out]
    obtain ⟨A3, c3, rfl, h31, h32, -⟩ := own_reads hP3.own
    have HP3 := Lib.hid hP3
    have hg13 := hg2.trans hg3
    clear hT3 hP3
    go_wp2_with fail
    refine (Get_any w3 w1.heap.size _ n (n + 12) b (Hin1.out.below hg13) hg13.size (by omega) (by unfold maxLen; omega) (by omega)).mono ?_
    intro e w4 hT4
    obtain ⟨v4, vs4, rfl, hP4, hg4⟩ := hT4.all
    rw [← Hts.out] at hP4
    rw [← Her.out]
    obtain ⟨A4, c4, rfl, h41, h42, -⟩ := own_reads hP4.own
    have HP4 := Lib.hid hP4
    have hg14 := hg13.trans hg4
    clear hT4 hP4
    go_wp2_with fail
    refine (Burst_any w4 w1.heap.size _ n (n + 12) b bit mask (Hin1.out.below hg14) hg14.size (by omega) h1 h2).mono ?_
    rintro e w5 ⟨v5, x5, rfl, hB5, ho5, hg5⟩
    have hg15 := hg14.trans hg5
    rw [hlen.out] at ho5
    obtain ⟨A5, c5, rfl, h51, h52, h53⟩ := own_reads ho5
    have Ho5 := Lib.hid ho5
    have HB5 := Lib.hid hB5
    clear ho5 hB5 h53
    go_wp2_with fail
    refine (Burst_any w5 w1.heap.size _ n (n + 12) b bit mask (Hin1.out.below hg15) hg15.size (by omega) h1 h2).mono ?_
    rintro e w6 ⟨v6, x6, rfl, hB6, ho6, hg6⟩
    have hg16 := hg15.trans hg6
    rw [hlen.out] at ho6
    obtain ⟨A6, c6, rfl, h61, h62, h63⟩ := own_reads ho6
    have Ho6 := Lib.hid ho6
    clear ho6 hB6 h63
    have hg46 := hg5.trans hg6
    have hg36 := hg4.trans hg46
    have hg26 := hg3.trans hg36
    have hz1 := hg1.size
    have hz2 := hg2.size
    have hz3 := hg3.size
    have hz4 := hg4.size
    have hz5 := hg5.size
    have hz6 := hg6.size
    have hP2' := HP2.out.grow hg26
    have hP3' := HP3.out.grow hg36
    have hbs : ∀ t ∈ ts, t.b.length ≤ 140737488351232 := fun t ht => by have := Htsl.out t ht; omega
    have hr2 := hP2'.reads hbs
    have hr3 := hP3'.reads hbs
    obtain ⟨A2', c2', e2, -, -, hr2⟩ := hr2
    injection e2 with e2 _ e3
    subst e2 e3
    obtain ⟨A3', c3', e2, -, -, hr3⟩ := hr3
    injection e2 with e2 _ e3
    subst e2 e3
    have Hs := Lib.hid (SameParts_any w6 _ _ c2 _ _ c3 ts ts hr2 hr3 (by omega) (by omega))
    clear hP2' hP3' hr2 hr3
    go_wp2_with fail
    refine Hs.out.mono ?_
    rw [show samePartsB ts ts = true by
      have : ∀ l : List PartM, samePartsB l l = true := fun l => by
        induction l with
        | nil => rfl
        | cons a r ih => simp [samePartsB, samePartB, sameL_self, ih]
      exact this ts]
    rintro e w7 ⟨rfl, hg7⟩
    have hz7 := hg7.size
    go_wp2_with fail
    refine (rBurst_any w7 w.heap.size A n c b bit mask (HR1.out.below (Below.mono (hg16.trans hg7) hg1.size)) (by omega) (by omega) h1 h2).mono ?_
    rintro e w8 ⟨v8, x8, rfl, hB8, ho8, hg8⟩
    rw [hlen.out] at ho8
    obtain ⟨A8, c8, rfl, h81, h82, h83⟩ := own_reads ho8
    have H83 := Lib.hid h83
    obtain rfl := BurstOf.one HB5.out hB8
    have hz8 := hg8.size
    clear ho8 hB8 h83
    have ho58 := own_below Ho5.out (hg6.trans (hg7.trans hg8))
    obtain ⟨A5', c5', e5, h53, h54, h55⟩ := own_reads ho58
    injection e5 with e5 _ e6
    subst e5 e6
    have Hs2 := Lib.hid (SameBytes_any w8 _ _ A5 A8 n c5 n c8 x5 x5 h55 H83.out (by unfold maxLen; omega) (by unfold maxLen; omega))
    have hg18 := hg16.trans (hg7.trans hg8)
    clear ho58 h55
    go_wp2_with fail
    refine Hs2.out.mono ?_
    rw [sameL_self]
    rintro e w9 ⟨rfl, q9, hq9⟩
    have hg9 : Grow w8 w9 := by rw [← hq9]; exact Grow.drewN _ _
    have hg19 := hg18.trans hg9
    clear hq9
    have hz9 := hg9.size
    go_wp2_with fail
    refine (KeptBytes_yes w9 w.heap.size w.heap.size A n c b (HL1.out.below hg19 hlt1) (HR1.out.below (Below.mono hg19 hz1)) (by omega)).mono ?_
    rintro e w10 ⟨rfl, q10, hq10⟩
    have hg10 : Grow w9 w10 := by rw [← hq10]; exact Grow.drewN _ _
    clear hq10
    have hz10 := hg10.size
    have hg20 : Grow w10 (w10.alloc (.cells #[.slice A2 ts.length c2, .slice A4 ts.length c4] 22)) := Grow.alloc _ _
    have hg6t : Grow w6 (w10.alloc (.cells #[.slice A2 ts.length c2, .slice A4 ts.length c4] 22)) := hg7.trans (hg8.trans (hg9.trans (hg10.trans hg20)))
    have hrd := ReadsAt.made w10 22 [.slice A2 ts.length c2, .slice A4 ts.length c4]
    have hP2t := HP2.out.grow (hg26.trans hg6t)
    have hP4t := HP4.out.grow (hg46.trans hg6t)
    have hP4t' : PartsOwn w1.heap.size (w10.alloc (.cells #[.slice A2 ts.length c2, .slice A4 ts.length c4] 22)) (.slice A4 ts.length c4) ts vs4 := hP4t.lower (by omega)
    have hb2 : ∀ k, (Value.slice A2 ts.length c2).ownBlock = some k → w1.heap.size ≤ k ∧ k < w2.heap.size := HP2.out.own.lt
    have hb4 : ∀ k, (Value.slice A4 ts.length c4).ownBlock = some k → w3.heap.size ≤ k ∧ k < w4.heap.size := HP4.out.own.lt
    have hd1 : DistV [.slice A2 ts.length c2, .slice A4 ts.length c4] := by
      intro i j v v' b hi hj hij hb hb'
      match i, j, hi, hj with
      | 0, 0, _, _ => exact hij rfl
      | 1, 1, _, _ => exact hij rfl
      | 0, 1, hi, hj => cases hi; cases hj; have := hb2 b hb; have := hb4 b hb'; omega
      | 1, 0, hi, hj => cases hi; cases hj; have := hb2 b hb'; have := hb4 b hb; omega
    have hd2 : DistV (vs2 ++ vs4) := DistV.append HP2.out.dist HP4.out.dist fun i j x y b hx hy hb hb' => by
      have := HP2.out.lt hx hb
      have := HP4.out.lt hy hb'
      omega
    have Hap := Lib.hid (ApartParts_any _ w1.heap.size _ (some ⟨w10.heap.size, 0, none⟩) 2 2 [(.slice A2 ts.length c2, ts, vs2), (.slice A4 ts.length c4, ts, vs4)] hrd (by simp) (fun p hp => by
      simp only [List.mem_cons, List.not_mem_nil, or_false] at hp
      rcases hp with rfl | rfl
      · exact hP2t
      · exact hP4t') hd1 (by simpa using hd2) (by simp; omega) (by omega) (by
        have e2 := HP2.out.len
        have e4 := HP4.out.len
        simp
        omega) (fun p hp t ht => by
        simp only [List.mem_cons, List.not_mem_nil, or_false] at hp
        have : t ∈ ts := by rcases hp with rfl | rfl <;> exact ht
        have := Htsl.out t this
        omega))
    have Hlow : Hid (∀ k, (OwnS ([(Value.slice A2 ts.length c2, ts, vs2), (.slice A4 ts.length c4, ts, vs4)].flatMap (·.2.2)) k ∨ OwnS ([(Value.slice A2 ts.length c2, ts, vs2), (.slice A4 ts.length c4, ts, vs4)].map (·.1)) k) → w1.heap.size ≤ k ∧ k < w4.heap.size) := fun k hk => by
      rcases hk with ⟨j, v, hv, hvb⟩ | ⟨j, v, hv, hvb⟩
      · have hv : (vs2 ++ vs4)[j]? = some v := by simpa using hv
        rw [List.getElem?_append] at hv
        split at hv
        · have := HP2.out.lt hv hvb
          omega
        · have := HP4.out.lt hv hvb
          omega
      · match j, hv with
        | 0, hv => cases hv; have := hb2 k hvb; omega
        | 1, hv => cases hv; have := hb4 k hvb; omega
    clear hP2t hP4t hP4t' hd1 hd2 hrd hb2 hb4 hg6t hg20
    go_wp2_with fail
    refine Hap.out.mono ?_
    rintro e w11 ⟨rfl, hk11⟩
    have hb11 : Below w1.heap.size w10 w11 := (Below.mono (Grow.alloc w10 (.cells #[.slice A2 ts.length c2, .slice A4 ts.length c4] 22)) (by omega)).trans (hk11.below (fun k hk => (Hlow.out k hk).1) (by simp; omega))
    have hz11 := hk11.size
    have hv5 := hk11.own (own_below (own_below Ho5.out (hg6.trans (hg7.trans (hg8.trans (hg9.trans hg10))))) (Grow.alloc w10 (.cells #[.slice A2 ts.length c2, .slice A4 ts.length c4] 22))) fun k hk hs => by have := (Ho5.out.lt k hk).1; have := (Hlow.out k hs).2; omega
    have hv6 := hk11.own (own_below (own_below Ho6.out (hg7.trans (hg8.trans (hg9.trans hg10)))) (Grow.alloc w10 (.cells #[.slice A2 ts.length c2, .slice A4 ts.length c4] 22))) fun k hk hs => by have := (Ho6.out.lt k hk).1; have := (Hlow.out k hs).2; omega
    have hg12 : Grow w11 (w11.alloc (.cells #[.slice A5 n c5, .slice A6 n c6] 26)) := Grow.alloc _ _
    have hrd2 := ReadsAt.made w11 26 [.slice A5 n c5, .slice A6 n c6]
    have hv5' := own_below hv5 hg12
    have hv6' := own_base (own_below hv6 hg12) (show w4.heap.size ≤ w5.heap.size by omega)
    have hzz : w4.heap.size ≤ w11.heap.size := by have := hz11; simp at this; omega
    have hV : ∀ (j : Nat) (v : Value), ([.slice A5 n c5, .slice A6 n c6] : List Value)[j]? = some v → ∃ L, (w11.alloc (.cells #[.slice A5 n c5, .slice A6 n c6] 26)).ownsRow w4.heap.size 5 1 v ((fun _ => n) j) L := by
      intro j v hv
      match j, hv with
      | 0, hv => cases hv; exact ⟨_, hv5'⟩
      | 1, hv => cases hv; exact ⟨_, hv6'⟩
    have hD : DistV [.slice A5 n c5, .slice A6 n c6] := by
      have h5 : ∀ b, (Value.slice A5 n c5).ownBlock = some b → b < w5.heap.size := fun b h => (Ho5.out.lt b h).2
      have h6 : ∀ b, (Value.slice A6 n c6).ownBlock = some b → w5.heap.size ≤ b := fun b h => (Ho6.out.lt b h).1
      intro i j v v' b hi hj hij hb hb'
      match i, j, hi, hj with
      | 0, 0, _, _ => exact hij rfl
      | 1, 1, _, _ => exact hij rfl
      | 0, 1, hi, hj => cases hi; cases hj; have := h5 b hb; have := h6 b hb'; omega
      | 1, 0, hi, hj => cases hi; cases hj; have := h5 b hb'; have := h6 b hb; omega
    have Hap2 := Lib.hid (ApartBytes_any _ w4.heap.size _ (some ⟨w11.heap.size, 0, none⟩) 2 2 [.slice A5 n c5, .slice A6 n c6] (fun _ => n) hrd2 (by simp) hV hD (by simp; omega) (by omega) (fun _ => by omega))
    have Hbig := Lib.hid (show ∀ b, OwnS [.slice A5 n c5, .slice A6 n c6] b → w1.heap.size ≤ b from fun b ⟨j, v, hj, hb⟩ => by
      obtain ⟨L, hL⟩ := hV j v hj
      have := (hL.lt b hb).1
      omega)
    clear hV hD hv5 hv6 hv5' hv6' hrd2 hk11
    go_wp2_with fail
    refine Hap2.out.mono ?_
    rintro e w13 ⟨rfl, hk13, -⟩
    have hb13 : Below w1.heap.size w11 w13 := (Below.mono hg12 (by omega)).trans (hk13.below Hbig.out (by simp; omega))
    have hb1 : Below w1.heap.size w1 w13 := Below.trans (Below.trans (hg19.trans hg10) hb11) hb13
    have HB := Lib.hid hb1
    clear hk13 hb13 hb11
    go_wp2_with fail
    refine (KeptBytes_yes w13 w.heap.size w.heap.size A n c b (HL1.out.below hb1 hlt1) (HR1.out.below (Below.mono hb1 hz1)) (by omega)).mono ?_
    rintro e w14 ⟨rfl, q14, hq14⟩
    have hg14' : Grow w13 w14 := by rw [← hq14]; exact Grow.drewN _ _
    clear hq14
    go_wp2_with fail
    refine (awake03_any w14).mono ?_
    rintro e w15 ⟨rfl, hg15'⟩
    go_wp2
    go_ret
    exact ⟨rfl, Below.trans hg1 (Below.mono (Below.trans HB.out (Below.mono (hg14'.trans hg15') HB.out.size)) hz1)⟩
end Go.Proofs.YtbbjeokecgnfpaaGreat
