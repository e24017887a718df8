/-
  The walks of mudlarkkit's bag.apart for rows of texts, and of ApartTexts. Printed by gen/bagposts.py.
-/
import Derived.Test.YtfjnjlcmikhehaaGreatBag
import Derived.Test.YtfjnjlcmikhehaaGreatFlatTexts
import Derived.Test.YtfjnjlcmikhehaaGreatApartPosts
namespace Go.Proofs.YtfjnjlcmikhehaaGreat
open Go.RowKit
set_option linter.unusedVariables false

set_option maxRecDepth 100000 in
set_option maxHeartbeats 8000000 in
theorem apart_Texts (w : World) (g B Bt : Nat) (tabs : Nat → Value) (xs : Nat → List Value) (h : BagAt w g Bt tabs xs) (hnil : ∀ i, ([4] : List Nat).contains i = false → xs i = []) (hB : B ≤ w.heap.size) (N4 : Nat → Nat) (hR4 : ∀ (j : Nat) (v : Value), (xs 4)[j]? = some v → ∃ L, w.ownsRow B 9 1 v (N4 j) L) (hd4 : DistV (xs 4)) (hm4 : (xs 4).length ≤ 100000) (hN4 : ∀ j, N4 j ≤ 1000000) :
    Calls Tryz.prog 25 #[.pointer (some ⟨g, 0, none⟩)] w fun e w' => e = .returned (.bool true) ∧ Keep (fun b => OwnS (xs 4) b) w w' := by
  obtain ⟨m4, hmm4⟩ : ∃ m, m = (xs 4).length := ⟨_, rfl⟩
  have hT4 : w.ownsRow Bt 30 1 (tabs 4) (xs 4).length (xs 4) := h.own 4 (by decide)
  obtain ⟨A4, c4, e4, -, -, -⟩ := own_reads hT4
  rw [e4] at hT4
  rw [← hmm4] at e4 hT4 hm4
  have HT4 := Lib.hid hT4
  have HR4 := Lib.hid hR4
  have Hd4 := Lib.hid hd4
  have HN4 := Lib.hid hN4
  have hgS4 : ¬ OwnS (xs 4) g := fun ⟨j, v, hv, hvb⟩ => by
    obtain ⟨L, hL⟩ := hR4 j v hv
    exact absurd (own_type_blk hL hvb h.blk) (by decide)
  have hb0 : Blk w g 77 #[.slice none 0 0, .slice none 0 0, .slice none 0 0, .slice none 0 0, .slice A4 m4 c4, .slice none 0 0, .slice none 0 0, .slice none 0 0, .slice none 0 0, .slice none 0 0, .slice none 0 0, .slice none 0 0, .slice none 0 0, .slice none 0 0, .slice none 0 0, .slice none 0 0, .slice none 0 0, .slice none 0 0, .slice none 0 0, .slice none 0 0, .slice none 0 0] := by
    have hb := h.blk
    simp only [bagF, e4, h.nil 0 (by decide) (hnil 0 (by decide)), h.nil 1 (by decide) (hnil 1 (by decide)), h.nil 2 (by decide) (hnil 2 (by decide)), h.nil 3 (by decide) (hnil 3 (by decide)), h.nil 5 (by decide) (hnil 5 (by decide)), h.nil 6 (by decide) (hnil 6 (by decide)), h.nil 7 (by decide) (hnil 7 (by decide)), h.nil 8 (by decide) (hnil 8 (by decide)), h.nil 9 (by decide) (hnil 9 (by decide)), h.nil 10 (by decide) (hnil 10 (by decide)), h.nil 11 (by decide) (hnil 11 (by decide)), h.nil 12 (by decide) (hnil 12 (by decide)), h.nil 13 (by decide) (hnil 13 (by decide)), h.nil 14 (by decide) (hnil 14 (by decide)), h.nil 15 (by decide) (hnil 15 (by decide)), h.nil 16 (by decide) (hnil 16 (by decide)), h.nil 17 (by decide) (hnil 17 (by decide)), h.nil 18 (by decide) (hnil 18 (by decide)), h.nil 19 (by decide) (hnil 19 (by decide)), h.nil 20 (by decide) (hnil 20 (by decide))] at hb
    exact hb
  have hK0 : Keep (fun _ => False) w w := Keep.refl _ w
  have hc0 := hb0.cell 0
  clear hT4 hR4 hd4 hN4 e4 hmm4 hnil h
  go_enter Tryz.func25, Tryz.ntmps25
  go_wp2_with (first | (go_at_call 34; refine (flatLimbs_nil _).mono ?_; rintro e w1 ⟨rfl, hg1⟩; have hb1 := hb0.below hg1 hb0.lt; have hK1 : Keep (fun _ => False) w w1 := hK0.trans' (Keep.grow hg1); have hc1 := hb1.cell 1) | (go_at_call 35; refine (flatWords_nil _).mono ?_; rintro e w2 ⟨rfl, hg2⟩; have hb2 := hb1.below hg2 hb1.lt; have hK2 : Keep (fun _ => False) w w2 := hK1.trans' (Keep.grow hg2); have hc2 := hb2.cell 2; clear hc1) | (go_at_call 36; refine (flatInts_nil _).mono ?_; rintro e w3 ⟨rfl, hg3⟩; have hb3 := hb2.below hg3 hb2.lt; have hK3 : Keep (fun _ => False) w w3 := hK2.trans' (Keep.grow hg3); have hc3 := hb3.cell 3; clear hc2) | (go_at_call 37; refine (flatLongs_nil _).mono ?_; rintro e w4 ⟨rfl, hg4⟩; have hb4 := hb3.below hg4 hb3.lt; have hK4 : Keep (fun _ => False) w w4 := hK3.trans' (Keep.grow hg4); have hc4 := hb4.cell 4; clear hc3) | (go_at_call 38; refine (flatTexts_any _ B Bt A4 m4 c4 (xs 4) N4 (hK4.own HT4.out (fun _ _ h => h)) (fun j v hv => by obtain ⟨L, hL⟩ := HR4.out j v hv; exact ⟨L, hK4.own hL (fun _ _ h => h)⟩) Hd4.out (Nat.le_trans hB hK4.size) (by omega) HN4.out).mono ?_; rintro e w5 ⟨rfl, hk5⟩; have hb5 := hk5.blk hb4 hgS4; have hK5 : Keep (fun b => OwnS (xs 4) b) w w5 := Keep.trans' (Keep.mono hK4 (fun j hj => hj.elim)) (Keep.mono hk5 (fun j hj => Or.inl hj)); have hc5 := hb5.cell 5; clear hc4) | (go_at_call 39; refine (flatBytes_nil _).mono ?_; rintro e w6 ⟨rfl, hg6⟩; have hb6 := hb5.below hg6 hb5.lt; have hK6 : Keep (fun b => OwnS (xs 4) b) w w6 := hK5.trans' (Keep.grow hg6); have hc6 := hb6.cell 6; clear hc5) | (go_at_call 40; refine (flatTruths_nil _).mono ?_; rintro e w7 ⟨rfl, hg7⟩; have hb7 := hb6.below hg7 hb6.lt; have hK7 : Keep (fun b => OwnS (xs 4) b) w w7 := hK6.trans' (Keep.grow hg7); have hc7 := hb7.cell 7; clear hc6) | (go_at_call 41; refine (flatNodes_nil _).mono ?_; rintro e w8 ⟨rfl, hg8⟩; have hb8 := hb7.below hg8 hb7.lt; have hK8 : Keep (fun b => OwnS (xs 4) b) w w8 := hK7.trans' (Keep.grow hg8); have hc8 := hb8.cell 8; clear hc7) | (go_at_call 42; refine (flatInsts_nil _).mono ?_; rintro e w9 ⟨rfl, hg9⟩; have hb9 := hb8.below hg9 hb8.lt; have hK9 : Keep (fun b => OwnS (xs 4) b) w w9 := hK8.trans' (Keep.grow hg9); have hc9 := hb9.cell 9; clear hc8) | (go_at_call 43; refine (flatQueries_nil _).mono ?_; rintro e w10 ⟨rfl, hg10⟩; have hb10 := hb9.below hg10 hb9.lt; have hK10 : Keep (fun b => OwnS (xs 4) b) w w10 := hK9.trans' (Keep.grow hg10); have hc10 := hb10.cell 10; clear hc9) | (go_at_call 44; refine (flatFiles_nil _).mono ?_; rintro e w11 ⟨rfl, hg11⟩; have hb11 := hb10.below hg11 hb10.lt; have hK11 : Keep (fun b => OwnS (xs 4) b) w w11 := hK10.trans' (Keep.grow hg11); have hc11 := hb11.cell 11; clear hc10) | (go_at_call 45; refine (flatDocs_nil _).mono ?_; rintro e w12 ⟨rfl, hg12⟩; have hb12 := hb11.below hg12 hb11.lt; have hK12 : Keep (fun b => OwnS (xs 4) b) w w12 := hK11.trans' (Keep.grow hg12); have hc12 := hb12.cell 12; clear hc11) | (go_at_call 46; refine (flatPlaces_nil _).mono ?_; rintro e w13 ⟨rfl, hg13⟩; have hb13 := hb12.below hg13 hb12.lt; have hK13 : Keep (fun b => OwnS (xs 4) b) w w13 := hK12.trans' (Keep.grow hg13); have hc13 := hb13.cell 13; clear hc12) | (go_at_call 47; refine (flatPostings_nil _).mono ?_; rintro e w14 ⟨rfl, hg14⟩; have hb14 := hb13.below hg14 hb13.lt; have hK14 : Keep (fun b => OwnS (xs 4) b) w w14 := hK13.trans' (Keep.grow hg14); have hc14 := hb14.cell 14; clear hc13) | (go_at_call 48; refine (flatShardRefs_nil _).mono ?_; rintro e w15 ⟨rfl, hg15⟩; have hb15 := hb14.below hg15 hb14.lt; have hK15 : Keep (fun b => OwnS (xs 4) b) w w15 := hK14.trans' (Keep.grow hg15); have hc15 := hb15.cell 15; clear hc14) | (go_at_call 49; refine (flatManifests_nil _).mono ?_; rintro e w16 ⟨rfl, hg16⟩; have hb16 := hb15.below hg16 hb15.lt; have hK16 : Keep (fun b => OwnS (xs 4) b) w w16 := hK15.trans' (Keep.grow hg16); have hc16 := hb16.cell 16; clear hc15) | (go_at_call 50; refine (flatAsks_nil _).mono ?_; rintro e w17 ⟨rfl, hg17⟩; have hb17 := hb16.below hg17 hb16.lt; have hK17 : Keep (fun b => OwnS (xs 4) b) w w17 := hK16.trans' (Keep.grow hg17); have hc17 := hb17.cell 17; clear hc16) | (go_at_call 51; refine (flatHits_nil _).mono ?_; rintro e w18 ⟨rfl, hg18⟩; have hb18 := hb17.below hg18 hb17.lt; have hK18 : Keep (fun b => OwnS (xs 4) b) w w18 := hK17.trans' (Keep.grow hg18); have hc18 := hb18.cell 18; clear hc17) | (go_at_call 52; refine (flatAnswers_nil _).mono ?_; rintro e w19 ⟨rfl, hg19⟩; have hb19 := hb18.below hg19 hb18.lt; have hK19 : Keep (fun b => OwnS (xs 4) b) w w19 := hK18.trans' (Keep.grow hg19); have hc19 := hb19.cell 19; clear hc18) | (go_at_call 53; refine (flatParts_nil _).mono ?_; rintro e w20 ⟨rfl, hg20⟩; have hb20 := hb19.below hg20 hb19.lt; have hK20 : Keep (fun b => OwnS (xs 4) b) w w20 := hK19.trans' (Keep.grow hg20); have hc20 := hb20.cell 20; clear hc19) | (go_at_call 54; refine (flatChanges_nil _).mono ?_; rintro e w21 ⟨rfl, hg21⟩; have hb21 := hb20.below hg21 hb20.lt; have hK21 : Keep (fun b => OwnS (xs 4) b) w w21 := hK20.trans' (Keep.grow hg21); clear hc20))
  go_ret
  exact ⟨rfl, hK21⟩

/-- a list of texts that was handed out -/
abbrev TQ := Value × List ByteArray
def bagTs (ps : List TQ) (i : Nat) : List Value := if i = 4 then ps.map (·.1) else []
theorem bagTs_succ (ps : List TQ) (p : TQ) : upd (bagTs ps) 4 (bagTs ps 4 ++ [p.1]) = bagTs (ps ++ [p]) := by
  funext j
  by_cases h5 : j = 4
  · subst h5
    rw [upd_self]
    simp [bagTs]
  · rw [upd_ne _ _ h5]
    simp [bagTs, h5]

set_option maxRecDepth 100000 in
set_option maxHeartbeats 4000000 in
theorem ApartTexts_any (w : World) (B Bw : Nat) (A : Option Addr) (m c : Nat) (ps : List TQ) (hR : ReadsAt w Bw 1 A m (ps.map (·.1))) (hBw : Bw ≤ w.heap.size) (hV : ∀ p ∈ ps, w.ownsRow B 9 1 p.1 p.2.length (p.2.map Value.string)) (hd : DistV (ps.map (·.1)))
    (hB : B ≤ w.heap.size) (hm : m ≤ 1000) (hb : ∀ p ∈ ps, p.2.length ≤ 1000000) :
    Calls Tryz.prog 19 #[.slice A m c] w fun e w' => e = .returned (.bool true) ∧ Keep (fun b => OwnS (ps.map (·.1)) b) w w' := by
  have hpl : ps.length = m := by have := hR.1; simpa using this
  have Hpl := Lib.hid hpl
  have HV := Lib.hid hV
  have Hd := Lib.hid hd
  have Hb := Lib.hid hb
  have hI0 : ∃ tabs, BagAt (w.alloc (.cells (bagF fun _ => .slice none 0 0) 77)) w.heap.size w.heap.size tabs (bagTs (ps.take 0)) ∧ Grow w (w.alloc (.cells (bagF fun _ => .slice none 0 0) 77)) :=
    ⟨_, by rw [show bagTs (ps.take 0) = fun _ => [] by funext j; simp [bagTs]]; exact BagAt.new w, Grow.alloc _ _⟩
  have HI0 := Lib.hid hI0
  clear hpl hV hd hb hI0
  go_enter Tryz.func19, Tryz.ntmps19
  go_wp2_with fail
  go_loopw [4] (fun v4 wr => ∃ k : Nat, k ≤ m ∧ v4 = .int .i64 (k : Int) ∧ Hid (∃ tabs, BagAt wr w.heap.size w.heap.size tabs (bagTs (ps.take k)) ∧ Grow w wr)) (fun v4 _ => m - (intOf v4).toNat)
  case atStart => exact ⟨0, by omega, rfl, HI0⟩
  case round =>
    clear HI0
    obtain ⟨k, hk, rfl, hI⟩ := hrel
    obtain ⟨tabs, hbag, hg⟩ := hI.out
    have hgz := hg.size
    by_cases hlt : k < m
    · obtain ⟨p, hp⟩ : ∃ p, ps[k]? = some p := ⟨_, List.getElem?_eq_getElem (by rw [Hpl.out]; exact hlt)⟩
      obtain ⟨b, off, rfl, hbB, hcl⟩ := hR.2 (by omega)
      have hpm : p ∈ ps := List.mem_of_getElem? hp
      have hcv : wr.cell? ⟨b, off + k, none⟩ = some p.1 := (hg.cell (p := ⟨b, off + k, none⟩) (by show b < w.heap.size; omega)).trans (hcl k p.1 (by rw [List.getElem?_map, hp]; rfl))
      obtain ⟨A1, c1, e1, -, -, -⟩ := own_reads (HV.out p hpm)
      obtain ⟨n, hn⟩ : ∃ n, n = p.2.length := ⟨_, rfl⟩
      rw [← hn] at e1
      rw [e1] at hcv
      have hxk : bagTs (ps.take k ++ [p]) = bagTs (ps.take (k + 1)) := by rw [List.take_add_one, hp]; rfl
      have h4 : (bagTs (ps.take k) 4).length ≤ 1000000 := by simp [bagTs]; omega
      have hcall := putTexts_bag wr w.heap.size w.heap.size tabs (bagTs (ps.take k)) A1 n c1 hbag h4 hgz
      rw [← e1, bagTs_succ, hxk, e1] at hcall
      have Hcall := Lib.hid hcall
      clear hcall hbag hcl hI hxk h4 hp e1 hn
      go_wp2_with fail
      refine Hcall.out.mono ?_
      rintro e w2 ⟨rfl, ⟨tabs2, hb2⟩, hl2⟩
      have HI2 := Lib.hid (show ∃ tabs, BagAt w2 w.heap.size w.heap.size tabs (bagTs (ps.take (k + 1))) ∧ Grow w w2 from ⟨tabs2, hb2, Below.trans hg hl2⟩)
      clear hb2 hl2
      go_wp2
      go_roundw
      case rel => exact ⟨k + 1, by omega, by go_num, HI2⟩
      case measure => simp [intOf]; omega
    · obtain rfl : m = k := by omega
      rw [List.take_of_length_le (by rw [Hpl.out]; exact Nat.le_refl _)] at hbag
      have e4 : bagTs ps 4 = ps.map (·.1) := rfl
      have hcall := apart_Texts wr w.heap.size B w.heap.size tabs (bagTs ps) hbag (fun i hi => by
        have h1 : i ≠ 4 := fun h => by subst h; cases hi
        simp [bagTs, h1]) (Nat.le_trans hB hgz) (fun j => ((ps[j]?).map (·.2.length)).getD 0) (fun j x hx => by
          rw [e4, List.getElem?_map, Option.map_eq_some_iff] at hx
          obtain ⟨p, hp, rfl⟩ := hx
          simp only [hp, Option.map_some, Option.getD_some]
          exact ⟨_, own_below (HV.out p (List.mem_of_getElem? hp)) hg⟩) Hd.out (by rw [e4, List.length_map, Hpl.out]; omega) (fun j => by
          cases hp : ps[j]? with
          | none => simp
          | some p =>
            simp only [Option.map_some, Option.getD_some]
            exact Hb.out p (List.mem_of_getElem? hp))
      have Hcall := Lib.hid hcall
      clear hcall hbag hI
      go_wp2_with fail
      refine Hcall.out.mono ?_
      rintro e w3 ⟨rfl, hk3⟩
      go_wp2
      go_ret
      exact ⟨rfl, Keep.trans' (Keep.grow hg) hk3⟩
end Go.Proofs.YtfjnjlcmikhehaaGreat
