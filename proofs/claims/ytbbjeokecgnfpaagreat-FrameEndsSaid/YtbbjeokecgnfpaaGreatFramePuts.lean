/-
  The walk of mudlarklaw03.FramePuts: what is put is what the document tells; what is lent stays; what is told lies apart.
-/
import Derived.Test.YtbbjeokecgnfpaaGreatKeptParts
import Derived.Test.YtbbjeokecgnfpaaGreatFrameRPut
import Derived.Test.YtbbjeokecgnfpaaGreatApart
import Derived.Test.YtbbjeokecgnfpaaGreatFrameAwake
namespace Go.Proofs.YtbbjeokecgnfpaaGreat
open Go.RowKit WireM

theorem own_lower {w : World} {base b2 e size n : Nat} {v : Value} {xs : List Value} (h : w.ownsRow base e size v n xs) (hb : b2 ≤ base) : w.ownsRow b2 e size v n xs :=
  ⟨h.1, h.2.imp id fun ⟨g, cap, cur, h1, h2, h3⟩ => ⟨g, cap, cur, h1, Nat.le_trans hb h2, h3⟩⟩

set_option maxRecDepth 100000 in
set_option maxHeartbeats 4000000 in
theorem fputs_walk (w : World) (A : Option Addr) (n c : Nat) (ts : List PartM) (hT : PartsAt w w.heap.size A n ts) (hn : n ≤ 4398046510976) :
    Calls Tryz.prog 3 #[.slice A n c] w fun e w' => e = .returned (.bool true) ∧ Below w.heap.size w w' := by
  have HT := Lib.hid hT
  clear hT
  go_enter Tryz.func3, Tryz.ntmps3
  go_wp2_with fail
  refine Calls.mono (show Calls _ _ #[.slice A n c, .int .i64 10000] _ _ from PartsOf_any w w.heap.size A n c 10000 ts HT.out hn (by omega)) ?_
  rintro e w2 ⟨N, hN, rfl, rfl⟩
  by_cases hbig : 10000 < N
  · have d1 : decide ((10000 : Int) < (N : Int)) = true := decide_eq_true (by omega)
    clear hN
    go_wp2_with fail
    refine (awake03_any w).mono ?_
    rintro e w1 ⟨rfl, hg1⟩
    go_wp2
    go_ret
    exact ⟨rfl, hg1⟩
  · have d1 : decide ((10000 : Int) < (N : Int)) = false := decide_eq_false (by omega)
    have htot : partsTot ts ≤ 10000 := by rcases hN with h | h <;> omega
    clear hN hbig
    have hbs := body_small ts (by omega)
    have hbg := body_ge ts
    have hlen := HT.out.len
    obtain ⟨F, hF⟩ : ∃ F, F = fileB ts := ⟨_, rfl⟩
    have hFl : F.length = 8 + (bodyB ts).length := by rw [hF, fileB_len]
    obtain ⟨f, hf⟩ : ∃ f, f = F.length := ⟨_, rfl⟩
    have hf2 : f ≤ 70008 := by omega
    have hn2 : n ≤ 35000 := by omega
    have HF := Lib.hid hF
    have Hf := Lib.hid hf
    have Hlen := Lib.hid hlen
    have Hbt := Lib.hid (show ∀ t ∈ ts, t.b.length ≤ 1000000 from fun t ht => by have := part_le ht; omega)
    clear hF hFl hf hbs hbg hlen htot
    go_wp2_with fail
    refine (LentParts_any w w.heap.size A n c ts HT.out (Nat.le_refl _) (by omega) Hbt.out).mono ?_
    rintro e w3 ⟨rfl, ps, hps, hI⟩
    have hg3 : Grow w w3 := hI.below
    have hL3 := hI.lp
    have Hps := Lib.hid hps
    have HL3 := Lib.hid hL3
    have HP3 := Lib.hid (hL3.parts hps Hlen.out Hbt.out)
    have HT3 := Lib.hid ((HT.out.below hg3).more hg3.size)
    clear hI hps hL3
    go_wp2_with fail
    refine (Put_any w3 w3.heap.size (some ⟨w.heap.size, 0, none⟩) n (n + 12) ts HP3.out (Nat.le_refl _) hn (by rw [← HF.out, ← Hf.out]; omega)).mono ?_
    rintro e w4 ⟨r4, rfl, ho4, hg4⟩
    rw [← HF.out, ← Hf.out] at ho4
    obtain ⟨A4, c4, rfl, h41, h42, h43⟩ := own_reads ho4
    have Ho4 := Lib.hid ho4
    have H43 : Hid (BytesAt w4 w4.heap.size A4 f F) := h43
    clear ho4 h43
    go_wp2_with fail
    refine (rPut_any w4 A n c ts ((HT3.out.below hg4).more hg4.size) hn (by rw [← HF.out, ← Hf.out]; omega)).mono ?_
    rintro e w5 ⟨r5, rfl, ho5, hg5⟩
    rw [← HF.out, ← Hf.out] at ho5
    obtain ⟨A5, c5, rfl, h51, h52, h53⟩ := own_reads ho5
    have H53 : Hid (BytesAt w5 w5.heap.size A5 f F) := h53
    clear ho5 h53
    have hg35 : Grow w3 w5 := hg4.trans hg5
    go_wp2_with fail
    refine (Put_any w5 w3.heap.size (some ⟨w.heap.size, 0, none⟩) n (n + 12) ts (HP3.out.below hg35) hg35.size hn (by rw [← HF.out, ← Hf.out]; omega)).mono ?_
    rintro e w6 ⟨r6, rfl, ho6, hg6⟩
    rw [← HF.out, ← Hf.out] at ho6
    obtain ⟨A6, c6, rfl, h61, h62, h63⟩ := own_reads ho6
    have Ho6 := Lib.hid ho6
    clear ho6 h63
    have hg46 : Grow w4 w6 := hg5.trans hg6
    have hg36 : Grow w3 w6 := hg4.trans hg46
    have hz4 := hg4.size
    have hz5 := hg5.size
    have hz6 := hg6.size
    go_wp2_with fail
    refine (SameBytes_any w6 w4.heap.size w5.heap.size A4 A5 f c4 f c5 F F (H43.out.below hg46) (H53.out.below hg6) (by unfold maxLen; omega) (by unfold maxLen; omega)).mono ?_
    rw [sameL_self]
    rintro e w7 ⟨rfl, q7, hq7⟩
    have hg67 : Grow w6 w7 := by rw [← hq7]; exact Grow.drewN _ _
    have hg37 : Grow w3 w7 := hg36.trans hg67
    have hg47 : Grow w4 w7 := hg46.trans hg67
    clear hq7
    have hz7 := hg67.size
    go_wp2_with fail
    refine (KeptParts_yes w7 w3.heap.size w.heap.size 0 n A c ts ps Hps.out (HL3.out.below hg37) (HT3.out.below hg37) hg37.size (by omega) Hbt.out).mono ?_
    rintro e w8 ⟨rfl, hg8⟩
    have hz8 := hg8.size
    have hg48 : Grow w4 w8 := hg47.trans hg8
    have hg68 : Grow w6 w8 := hg67.trans hg8
    have hg9 : Grow w8 (w8.alloc (.cells #[.slice A4 f c4, .slice A6 f c6] 26)) := Grow.alloc _ _
    have hrd := ReadsAt.made w8 26 [.slice A4 f c4, .slice A6 f c6]
    have hv4 := own_below Ho4.out (hg48.trans hg9)
    have hv6 := own_below Ho6.out (hg68.trans hg9)
    have hV : ∀ (j : Nat) (v : Value), ([.slice A4 f c4, .slice A6 f c6] : List Value)[j]? = some v → ∃ L, (w8.alloc (.cells #[.slice A4 f c4, .slice A6 f c6] 26)).ownsRow w3.heap.size 5 1 v ((fun _ => f) j) L := by
      intro j v hv
      match j, hv with
      | 0, hv => cases hv; exact ⟨_, hv4⟩
      | 1, hv => cases hv; exact ⟨_, own_lower hv6 (by omega)⟩
    have hD : DistV [.slice A4 f c4, .slice A6 f c6] := by
      have h4 : ∀ b, (Value.slice A4 f c4).ownBlock = some b → b < w4.heap.size := fun b h => (Ho4.out.lt b h).2
      have h6 : ∀ b, (Value.slice A6 f c6).ownBlock = some b → w5.heap.size ≤ b := fun b h => (Ho6.out.lt b h).1
      intro i j v v' b hi hj hij hb hb'
      match i, j, hi, hj with
      | 0, 0, _, _ => exact hij rfl
      | 1, 1, _, _ => exact hij rfl
      | 0, 1, hi, hj => cases hi; cases hj; have := h4 b hb; have := h6 b hb'; omega
      | 1, 0, hi, hj => cases hi; cases hj; have := h4 b hb'; have := h6 b hb; omega
    have Hap := Lib.hid (ApartBytes_any _ w3.heap.size _ (some ⟨w8.heap.size, 0, none⟩) 2 2 [.slice A4 f c4, .slice A6 f c6] (fun _ => f) hrd (by simp) hV hD (by simp; omega) (by omega) (fun _ => by omega))
    have Hbig := Lib.hid (show ∀ b, OwnS [.slice A4 f c4, .slice A6 f c6] b → w3.heap.size ≤ b from fun b ⟨j, v, hj, hb⟩ => by
      obtain ⟨L, hL⟩ := hV j v hj
      exact (hL.lt b hb).1)
    clear hrd hv4 hv6 hV hD hg9
    go_wp2_with fail
    refine Hap.out.mono ?_
    rintro e w10 ⟨rfl, hk10, -⟩
    have hb10 : Below w3.heap.size w8 w10 := (Below.mono (Grow.alloc _ _) (by omega)).trans (hk10.below Hbig.out (by simp; omega))
    have hb310 : Below w3.heap.size w3 w10 := Below.trans (Below.trans hg37 (Below.mono hg8 hg37.size)) hb10
    have HB := Lib.hid hb310
    clear hk10 hb10
    go_wp2_with fail
    refine (KeptParts_yes w10 w3.heap.size w.heap.size 0 n A c ts ps Hps.out (HL3.out.below hb310) (HT3.out.below hb310) hb310.size (by omega) Hbt.out).mono ?_
    rintro e w11 ⟨rfl, hg11⟩
    go_wp2_with fail
    refine (awake03_any w11).mono ?_
    rintro e w12 ⟨rfl, hg12⟩
    go_wp2
    go_ret
    exact ⟨rfl, Below.trans hg3 (Below.mono (Below.trans HB.out (Below.mono (hg11.trans hg12) hb310.size)) hg3.size)⟩
end Go.Proofs.YtbbjeokecgnfpaaGreat
