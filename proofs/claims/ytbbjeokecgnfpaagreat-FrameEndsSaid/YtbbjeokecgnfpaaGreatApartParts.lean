/-
  The walks of mudlarkkit's bag.apart for rows of bytes and of parts, and of ApartParts. Printed by gen/bagparts.py.
-/
import Derived.Test.YtbbjeokecgnfpaaGreatBagParts
import Derived.Test.YtbbjeokecgnfpaaGreatFlatParts
import Derived.Test.YtbbjeokecgnfpaaGreatFlatNil
import Derived.Test.YtbbjeokecgnfpaaGreatFlatBytes
namespace Go.Proofs.YtbbjeokecgnfpaaGreat
open Go.RowKit

set_option maxRecDepth 100000 in
set_option maxHeartbeats 8000000 in
theorem apart_Parts (w : World) (g B Bt : Nat) (tabs : Nat → Value) (xs : Nat → List Value) (h : BagAt w g Bt tabs xs) (hnil : ∀ i, ([5, 19] : List Nat).contains i = false → xs i = []) (hB : B ≤ w.heap.size) (N5 : Nat → Nat) (hR5 : ∀ (j : Nat) (v : Value), (xs 5)[j]? = some v → ∃ L, w.ownsRow B 5 1 v (N5 j) L) (hd5 : DistV (xs 5)) (hm5 : (xs 5).length ≤ 100000) (hN5 : ∀ j, N5 j ≤ 1000000) (N19 : Nat → Nat) (hR19 : ∀ (j : Nat) (v : Value), (xs 19)[j]? = some v → ∃ L, w.ownsRow B 45 2 v (N19 j) L) (hd19 : DistV (xs 19)) (hm19 : (xs 19).length ≤ 100000) (hN19 : ∀ j, N19 j ≤ 1000000) :
    Calls Tryz.prog 36 #[.pointer (some ⟨g, 0, none⟩)] w fun e w' => e = .returned (.bool true) ∧ Keep (fun b => OwnS (xs 5) b ∨ OwnS (xs 19) b) w w' := by
  obtain ⟨m5, hmm5⟩ : ∃ m, m = (xs 5).length := ⟨_, rfl⟩
  have hT5 : w.ownsRow Bt 26 1 (tabs 5) (xs 5).length (xs 5) := h.own 5 (by decide)
  obtain ⟨A5, c5, e5, -, -, -⟩ := own_reads hT5
  rw [e5] at hT5
  rw [← hmm5] at e5 hT5 hm5
  obtain ⟨m19, hmm19⟩ : ∃ m, m = (xs 19).length := ⟨_, rfl⟩
  have hT19 : w.ownsRow Bt 22 1 (tabs 19) (xs 19).length (xs 19) := h.own 19 (by decide)
  obtain ⟨A19, c19, e19, -, -, -⟩ := own_reads hT19
  rw [e19] at hT19
  rw [← hmm19] at e19 hT19 hm19
  have HT5 := Lib.hid hT5
  have HR5 := Lib.hid hR5
  have Hd5 := Lib.hid hd5
  have HN5 := Lib.hid hN5
  have hgS5 : ¬ OwnS (xs 5) g := fun ⟨j, v, hv, hvb⟩ => by
    obtain ⟨L, hL⟩ := hR5 j v hv
    exact absurd (own_type_blk hL hvb h.blk) (by decide)
  have HT19 := Lib.hid hT19
  have HR19 := Lib.hid hR19
  have Hd19 := Lib.hid hd19
  have HN19 := Lib.hid hN19
  have hgS19 : ¬ OwnS (xs 19) g := fun ⟨j, v, hv, hvb⟩ => by
    obtain ⟨L, hL⟩ := hR19 j v hv
    exact absurd (own_type_blk hL hvb h.blk) (by decide)
  have hb0 : Blk w g 83 #[.slice none 0 0, .slice none 0 0, .slice none 0 0, .slice none 0 0, .slice none 0 0, .slice A5 m5 c5, .slice none 0 0, .slice none 0 0, .slice none 0 0, .slice none 0 0, .slice none 0 0, .slice none 0 0, .slice none 0 0, .slice none 0 0, .slice none 0 0, .slice none 0 0, .slice none 0 0, .slice none 0 0, .slice none 0 0, .slice A19 m19 c19, .slice none 0 0] := by
    have hb := h.blk
    simp only [bagF, e5, e19, h.nil 0 (by decide) (hnil 0 (by decide)), h.nil 1 (by decide) (hnil 1 (by decide)), h.nil 2 (by decide) (hnil 2 (by decide)), h.nil 3 (by decide) (hnil 3 (by decide)), h.nil 4 (by decide) (hnil 4 (by decide)), h.nil 6 (by decide) (hnil 6 (by decide)), h.nil 7 (by decide) (hnil 7 (by decide)), h.nil 8 (by decide) (hnil 8 (by decide)), h.nil 9 (by decide) (hnil 9 (by decide)), h.nil 10 (by decide) (hnil 10 (by decide)), h.nil 11 (by decide) (hnil 11 (by decide)), h.nil 12 (by decide) (hnil 12 (by decide)), h.nil 13 (by decide) (hnil 13 (by decide)), h.nil 14 (by decide) (hnil 14 (by decide)), h.nil 15 (by decide) (hnil 15 (by decide)), h.nil 16 (by decide) (hnil 16 (by decide)), h.nil 17 (by decide) (hnil 17 (by decide)), h.nil 18 (by decide) (hnil 18 (by decide)), h.nil 20 (by decide) (hnil 20 (by decide))] at hb
    exact hb
  have hK0 : Keep (fun _ => False) w w := Keep.refl _ w
  have hc0 := hb0.cell 0
  clear hT5 hR5 hd5 hN5 e5 hmm5 hT19 hR19 hd19 hN19 e19 hmm19 hnil h
  go_enter Tryz.func36, Tryz.ntmps36
  go_wp2_with (first | (go_at_call 54; refine (flatLimbs_nil _).mono ?_; rintro e w1 ⟨rfl, hg1⟩; have hb1 := hb0.below hg1 hb0.lt; have hK1 : Keep (fun _ => False) w w1 := hK0.trans' (Keep.grow hg1); have hc1 := hb1.cell 1) | (go_at_call 55; refine (flatWords_nil _).mono ?_; rintro e w2 ⟨rfl, hg2⟩; have hb2 := hb1.below hg2 hb1.lt; have hK2 : Keep (fun _ => False) w w2 := hK1.trans' (Keep.grow hg2); have hc2 := hb2.cell 2; clear hc1) | (go_at_call 56; refine (flatInts_nil _).mono ?_; rintro e w3 ⟨rfl, hg3⟩; have hb3 := hb2.below hg3 hb2.lt; have hK3 : Keep (fun _ => False) w w3 := hK2.trans' (Keep.grow hg3); have hc3 := hb3.cell 3; clear hc2) | (go_at_call 57; refine (flatLongs_nil _).mono ?_; rintro e w4 ⟨rfl, hg4⟩; have hb4 := hb3.below hg4 hb3.lt; have hK4 : Keep (fun _ => False) w w4 := hK3.trans' (Keep.grow hg4); have hc4 := hb4.cell 4; clear hc3) | (go_at_call 58; refine (flatTexts_nil _).mono ?_; rintro e w5 ⟨rfl, hg5⟩; have hb5 := hb4.below hg5 hb4.lt; have hK5 : Keep (fun _ => False) w w5 := hK4.trans' (Keep.grow hg5); have hc5 := hb5.cell 5; clear hc4) | (go_at_call 59; refine (flatBytes_any _ B Bt A5 m5 c5 (xs 5) N5 (hK5.own HT5.out (fun _ _ h => h)) (fun j v hv => by obtain ⟨L, hL⟩ := HR5.out j v hv; exact ⟨L, hK5.own hL (fun _ _ h => h)⟩) Hd5.out (Nat.le_trans hB hK5.size) (by omega) (fun j => Nat.le_trans (HN5.out j) (by decide))).mono ?_; rintro e w6 ⟨rfl, hk6, -⟩; have hb6 := hk6.blk hb5 hgS5; have hK6 : Keep (fun b => OwnS (xs 5) b) w w6 := Keep.trans' (Keep.mono hK5 (fun j hj => hj.elim)) (Keep.mono hk6 (fun j hj => Or.inl hj)); have hc6 := hb6.cell 6; clear hc5) | (go_at_call 60; refine (flatTruths_nil _).mono ?_; rintro e w7 ⟨rfl, hg7⟩; have hb7 := hb6.below hg7 hb6.lt; have hK7 : Keep (fun b => OwnS (xs 5) b) w w7 := hK6.trans' (Keep.grow hg7); have hc7 := hb7.cell 7; clear hc6) | (go_at_call 61; refine (flatNodes_nil _).mono ?_; rintro e w8 ⟨rfl, hg8⟩; have hb8 := hb7.below hg8 hb7.lt; have hK8 : Keep (fun b => OwnS (xs 5) b) w w8 := hK7.trans' (Keep.grow hg8); have hc8 := hb8.cell 8; clear hc7) | (go_at_call 62; refine (flatInsts_nil _).mono ?_; rintro e w9 ⟨rfl, hg9⟩; have hb9 := hb8.below hg9 hb8.lt; have hK9 : Keep (fun b => OwnS (xs 5) b) w w9 := hK8.trans' (Keep.grow hg9); have hc9 := hb9.cell 9; clear hc8) | (go_at_call 63; refine (flatQueries_nil _).mono ?_; rintro e w10 ⟨rfl, hg10⟩; have hb10 := hb9.below hg10 hb9.lt; have hK10 : Keep (fun b => OwnS (xs 5) b) w w10 := hK9.trans' (Keep.grow hg10); have hc10 := hb10.cell 10; clear hc9) | (go_at_call 64; refine (flatFiles_nil _).mono ?_; rintro e w11 ⟨rfl, hg11⟩; have hb11 := hb10.below hg11 hb10.lt; have hK11 : Keep (fun b => OwnS (xs 5) b) w w11 := hK10.trans' (Keep.grow hg11); have hc11 := hb11.cell 11; clear hc10) | (go_at_call 65; refine (flatDocs_nil _).mono ?_; rintro e w12 ⟨rfl, hg12⟩; have hb12 := hb11.below hg12 hb11.lt; have hK12 : Keep (fun b => OwnS (xs 5) b) w w12 := hK11.trans' (Keep.grow hg12); have hc12 := hb12.cell 12; clear hc11) | (go_at_call 66; refine (flatPlaces_nil _).mono ?_; rintro e w13 ⟨rfl, hg13⟩; have hb13 := hb12.below hg13 hb12.lt; have hK13 : Keep (fun b => OwnS (xs 5) b) w w13 := hK12.trans' (Keep.grow hg13); have hc13 := hb13.cell 13; clear hc12) | (go_at_call 67; refine (flatPostings_nil _).mono ?_; rintro e w14 ⟨rfl, hg14⟩; have hb14 := hb13.below hg14 hb13.lt; have hK14 : Keep (fun b => OwnS (xs 5) b) w w14 := hK13.trans' (Keep.grow hg14); have hc14 := hb14.cell 14; clear hc13) | (go_at_call 68; refine (flatShardRefs_nil _).mono ?_; rintro e w15 ⟨rfl, hg15⟩; have hb15 := hb14.below hg15 hb14.lt; have hK15 : Keep (fun b => OwnS (xs 5) b) w w15 := hK14.trans' (Keep.grow hg15); have hc15 := hb15.cell 15; clear hc14) | (go_at_call 69; refine (flatManifests_nil _).mono ?_; rintro e w16 ⟨rfl, hg16⟩; have hb16 := hb15.below hg16 hb15.lt; have hK16 : Keep (fun b => OwnS (xs 5) b) w w16 := hK15.trans' (Keep.grow hg16); have hc16 := hb16.cell 16; clear hc15) | (go_at_call 70; refine (flatAsks_nil _).mono ?_; rintro e w17 ⟨rfl, hg17⟩; have hb17 := hb16.below hg17 hb16.lt; have hK17 : Keep (fun b => OwnS (xs 5) b) w w17 := hK16.trans' (Keep.grow hg17); have hc17 := hb17.cell 17; clear hc16) | (go_at_call 71; refine (flatHits_nil _).mono ?_; rintro e w18 ⟨rfl, hg18⟩; have hb18 := hb17.below hg18 hb17.lt; have hK18 : Keep (fun b => OwnS (xs 5) b) w w18 := hK17.trans' (Keep.grow hg18); have hc18 := hb18.cell 18; clear hc17) | (go_at_call 72; refine (flatAnswers_nil _).mono ?_; rintro e w19 ⟨rfl, hg19⟩; have hb19 := hb18.below hg19 hb18.lt; have hK19 : Keep (fun b => OwnS (xs 5) b) w w19 := hK18.trans' (Keep.grow hg19); have hc19 := hb19.cell 19; clear hc18) | (go_at_call 73; refine (flatParts_any _ B Bt A19 m19 c19 (xs 19) N19 (hK19.own HT19.out (fun b hb hs => sep_rows HR5.out HT19.out (by decide) b hb hs)) (fun j v hv => by obtain ⟨L, hL⟩ := HR19.out j v hv; exact ⟨L, hK19.own hL (fun b hb hs => sep_rows HR5.out hL (by decide) b hb hs)⟩) Hd19.out (Nat.le_trans hB hK19.size) (by omega) HN19.out).mono ?_; rintro e w20 ⟨rfl, hk20⟩; have hb20 := hk20.blk hb19 hgS19; have hK20 : Keep (fun b => OwnS (xs 5) b ∨ OwnS (xs 19) b) w w20 := Keep.trans' (Keep.mono hK19 (fun j hj => Or.inl (Or.inl hj))) (Keep.mono hk20 (fun j hj => Or.inl (Or.inr hj))); have hc20 := hb20.cell 20; clear hc19) | (go_at_call 74; refine (flatChanges_nil _).mono ?_; rintro e w21 ⟨rfl, hg21⟩; have hb21 := hb20.below hg21 hb20.lt; have hK21 : Keep (fun b => OwnS (xs 5) b ∨ OwnS (xs 19) b) w w21 := hK20.trans' (Keep.grow hg21); clear hc20))
  go_ret
  exact ⟨rfl, hK21⟩

/-- what the bag holds of rows of parts -/
abbrev PsV := Value × List PartM × List Value
def bagXs (ps : List PsV) (i : Nat) : List Value := if i = 19 then ps.map (·.1) else if i = 5 then ps.flatMap (·.2.2) else []
theorem bagXs_succ (ps : List PsV) (p : PsV) : upd (upd (bagXs ps) 19 (bagXs ps 19 ++ [p.1])) 5 (bagXs ps 5 ++ p.2.2) = bagXs (ps ++ [p]) := by
  funext j
  by_cases h5 : j = 5
  · subst h5
    rw [upd_self]
    simp [bagXs]
  · rw [upd_ne _ _ h5]
    by_cases h19 : j = 19
    · subst h19
      rw [upd_self]
      simp [bagXs]
    · rw [upd_ne _ _ h19]
      simp [bagXs, h5, h19]
theorem zip_cells : ∀ (l : List (PartM × Value)) (j : Nat) (p : PartM × Value), l[j]? = some p → ∀ (i : Nat) (u : Value), [Value.int .u8 (p.1.tag.toNat : Int), p.2][i]? = some u → (l.flatMap fun p => [Value.int .u8 (p.1.tag.toNat : Int), p.2])[j * 2 + i]? = some u
  | [], j, p, h, _, _, _ => by simp at h
  | a :: r, 0, p, h, i, u, hu => by
    obtain rfl : a = p := by simpa using h
    have hi : i < 2 := by have := (List.getElem?_eq_some_iff.1 hu).1; simpa using this
    rw [List.flatMap_cons, List.getElem?_append_left (by simp; omega), Nat.zero_mul, Nat.zero_add]
    exact hu
  | a :: r, j + 1, p, h, i, u, hu => by
    rw [List.flatMap_cons, List.getElem?_append_right (by simp; omega)]
    have := zip_cells r j p (by simpa using h) i u hu
    simp only [List.length_cons, List.length_nil]
    rw [show (j + 1) * 2 + i - (0 + 1 + 1) = j * 2 + i by omega]
    exact this
theorem len_flatMap : ∀ {ps : List PsV} {p : PsV}, p ∈ ps → p.2.2.length ≤ (ps.flatMap (·.2.2)).length
  | [], _, h => by cases h
  | a :: r, p, h => by
    rw [List.flatMap_cons, List.length_append]
    rcases List.mem_cons.1 h with rfl | h
    · omega
    · have := len_flatMap h
      omega
theorem flat_each {B : Nat} {w : World} : ∀ {ps : List PsV}, (∀ p ∈ ps, PartsOwn B w p.1 p.2.1 p.2.2) → ∀ (j : Nat) (x : Value), (ps.flatMap (·.2.2))[j]? = some x → ∃ t, (ps.flatMap (·.2.1))[j]? = some t ∧ w.ownsRow B 5 1 x t.b.length (t.b.map b8)
  | [], _, j, x, hx => by simp at hx
  | p :: r, h, j, x, hx => by
    have hp := h p (by simp)
    rw [List.flatMap_cons] at hx ⊢
    by_cases hj : j < p.2.2.length
    · rw [List.getElem?_append_left hj] at hx
      rw [List.getElem?_append_left (by rw [← hp.len]; exact hj)]
      exact ⟨_, List.getElem?_eq_getElem (by rw [← hp.len]; exact hj), hp.each j x _ hx (List.getElem?_eq_getElem (by rw [← hp.len]; exact hj))⟩
    · rw [List.getElem?_append_right (by omega)] at hx
      rw [List.getElem?_append_right (by rw [← hp.len]; omega), ← hp.len]
      exact flat_each (fun q hq => h q (by simp [hq])) _ x hx

set_option maxRecDepth 100000 in
set_option maxHeartbeats 4000000 in
theorem ApartParts_any (w : World) (B Bw : Nat) (A : Option Addr) (m c : Nat) (ps : List PsV) (hR : ReadsAt w Bw 1 A m (ps.map (·.1))) (hBw : Bw ≤ w.heap.size) (hV : ∀ p ∈ ps, PartsOwn B w p.1 p.2.1 p.2.2) (hd : DistV (ps.map (·.1))) (hd2 : DistV (ps.flatMap (·.2.2)))
    (hB : B ≤ w.heap.size) (hm : m ≤ 1000) (hN : (ps.flatMap (·.2.2)).length ≤ 100000) (hb : ∀ p ∈ ps, ∀ t ∈ p.2.1, t.b.length ≤ 1000000) :
    Calls Tryz.prog 21 #[.slice A m c] w fun e w' => e = .returned (.bool true) ∧ Keep (fun b => OwnS (ps.flatMap (·.2.2)) b ∨ OwnS (ps.map (·.1)) b) w w' := by
  have hpl : ps.length = m := by have := hR.1; simpa using this
  have Hpl := Lib.hid hpl
  have HV := Lib.hid hV
  have Hd := Lib.hid hd
  have Hd2 := Lib.hid hd2
  have HN := Lib.hid hN
  have Hb := Lib.hid hb
  have hI0 : ∃ tabs, BagAt (w.alloc (.cells (bagF fun _ => .slice none 0 0) 83)) w.heap.size w.heap.size tabs (bagXs (ps.take 0)) ∧ Grow w (w.alloc (.cells (bagF fun _ => .slice none 0 0) 83)) :=
    ⟨_, by rw [show bagXs (ps.take 0) = fun _ => [] by funext j; simp [bagXs]]; exact BagAt.new w, Grow.alloc _ _⟩
  have HI0 := Lib.hid hI0
  clear hpl hV hd hd2 hN hb hI0
  go_enter Tryz.func21, Tryz.ntmps21
  go_wp2_with fail
  go_loopw [4] (fun v4 wr => ∃ k : Nat, k ≤ m ∧ v4 = .int .i64 (k : Int) ∧ Hid (∃ tabs, BagAt wr w.heap.size w.heap.size tabs (bagXs (ps.take k)) ∧ Grow w wr)) (fun v4 _ => m - (intOf v4).toNat)
  case atStart => exact ⟨0, by omega, rfl, HI0⟩
  case round =>
    clear HI0
    obtain ⟨k, hk, rfl, hI⟩ := hrel
    obtain ⟨tabs, hbag, hg⟩ := hI.out
    have hgz := hg.size
    by_cases hlt : k < m
    · obtain ⟨p, hp⟩ : ∃ p, ps[k]? = some p := ⟨_, List.getElem?_eq_getElem (by rw [Hpl.out]; exact hlt)⟩
      obtain ⟨b, off, rfl, hbB, hcl⟩ := hR.2 (by omega)
      have hpm : p ∈ ps := List.mem_of_getElem? hp
      have hcv : wr.cell? ⟨b, off + k, none⟩ = some p.1 := (hg.cell (p := ⟨b, off + k, none⟩) (by show b < w.heap.size; omega)).trans (hcl k p.1 (by rw [List.getElem?_map, hp]; rfl))
      have hP := (HV.out p hpm).grow hg
      obtain ⟨A1, c1, e1, -, -, -⟩ := own_reads hP.own
      obtain ⟨n, hn⟩ : ∃ n, n = p.2.1.length := ⟨_, rfl⟩
      rw [← hn] at e1
      rw [e1] at hcv
      have hxk : bagXs (ps.take k ++ [p]) = bagXs (ps.take (k + 1)) := by rw [List.take_add_one, hp]; rfl
      have h5 : (bagXs (ps.take k) 5).length + n ≤ 100000 := by
        have h1 : (bagXs (ps.take k) 5).length + p.2.2.length = ((ps.take (k + 1)).flatMap (·.2.2)).length := by
          rw [List.take_add_one, hp]
          simp [bagXs]
        rw [hP.len, ← hn] at h1
        have h2 : (ps.take (k + 1)).flatMap (·.2.2) <+: ps.flatMap (·.2.2) := by
          have h3 : ps.flatMap (·.2.2) = (ps.take (k + 1)).flatMap (·.2.2) ++ (ps.drop (k + 1)).flatMap (·.2.2) := by rw [← List.flatMap_append, List.take_append_drop]
          rw [h3]
          exact List.prefix_append _ _
        have h4 := h2.length_le
        have := HN.out
        omega
      have h19 : (bagXs (ps.take k) 19).length ≤ 1000000 := by simp [bagXs]; omega
      have hcall := putParts_bag wr w.heap.size w.heap.size tabs (bagXs (ps.take k)) A1 n c1 ((p.2.1.zip p.2.2).map fun q => (q.1.tag, q.2)) hbag (fun j q hq => by
        rw [List.getElem?_map, Option.map_eq_some_iff] at hq
        obtain ⟨⟨t, x⟩, hz, rfl⟩ := hq
        obtain ⟨h1, h2⟩ := List.getElem?_zip_eq_some.1 hz
        obtain ⟨A2, c2, e2, -⟩ := own_reads (hP.each j x t h2 h1)
        exact ⟨A2, _, c2, e2⟩) (by rw [List.length_map, List.length_zip, hP.len, Nat.min_self, hn]) (fun j q hq => by
        rw [List.getElem?_map, Option.map_eq_some_iff] at hq
        obtain ⟨⟨t, x⟩, hz, rfl⟩ := hq
        have hjl : j < n := by
          have := (List.getElem?_eq_some_iff.1 hz).1
          rw [List.length_zip] at this
          omega
        have hown := (HV.out p hpm).own
        rw [e1, ← hn] at hown
        obtain ⟨b1, cap1, e3, -, -, -⟩ := own_slice hown (by omega)
        injection e3 with e3 e4 e5
        refine ⟨b1, 0, e3, ?_, fun i u hu => ?_⟩
        · rw [e3] at hown
          exact (hown.lt b1 rfl).2
        · have hown2 := hP.own
          rw [e1, ← hn, e3] at hown2
          have h9 := zip_cells _ j (t, x) hz i u hu
          have hi2 : j * 2 + i < n * 2 := by
            have h7 : i < 2 := (List.getElem?_eq_some_iff.1 hu).1
            omega
          rw [Nat.zero_add, hown2.cellAt _ (by omega)]
          exact h9) (by omega) h19 hgz
      rw [show ((p.2.1.zip p.2.2).map fun q => (q.1.tag, q.2)).map (fun q => q.2) = p.2.2 by
        rw [List.map_map]
        exact List.map_snd_zip (by rw [hP.len]; exact Nat.le_refl _), ← e1, bagXs_succ, hxk, e1] at hcall
      have Hcall := Lib.hid hcall
      clear hcall hbag hcl hI hP hxk h5 h19 hp e1 hn
      go_wp2_with fail
      refine Hcall.out.mono ?_
      rintro e w2 ⟨rfl, ⟨tabs2, hb2⟩, hl2⟩
      have HI2 := Lib.hid (show ∃ tabs, BagAt w2 w.heap.size w.heap.size tabs (bagXs (ps.take (k + 1))) ∧ Grow w w2 from ⟨tabs2, hb2, Below.trans hg hl2⟩)
      clear hb2 hl2
      go_wp2
      go_roundw
      case rel => exact ⟨k + 1, by omega, by go_num, HI2⟩
      case measure => simp [intOf]; omega
    · obtain rfl : m = k := by omega
      rw [List.take_of_length_le (by rw [Hpl.out]; exact Nat.le_refl _)] at hbag
      have e5 : bagXs ps 5 = ps.flatMap (·.2.2) := rfl
      have e19 : bagXs ps 19 = ps.map (·.1) := rfl
      have hcall := apart_Parts wr w.heap.size B w.heap.size tabs (bagXs ps) hbag (fun i hi => by
        have h1 : i ≠ 5 := fun h => by subst h; cases hi
        have h2 : i ≠ 19 := fun h => by subst h; cases hi
        simp [bagXs, h1, h2]) (Nat.le_trans hB hgz) (fun j => (((ps.flatMap (·.2.1))[j]?).map (·.b.length)).getD 0) (fun j x hx => by
          obtain ⟨t, ht, ho⟩ := flat_each (fun p hp => (HV.out p hp).grow hg) j x hx
          simp only [ht, Option.map_some, Option.getD_some]
          exact ⟨_, ho⟩) Hd2.out HN.out (fun j => by
          cases ht : (ps.flatMap (·.2.1))[j]? with
          | none => simp
          | some t =>
            simp only [Option.map_some, Option.getD_some]
            obtain ⟨p, hp, htp⟩ := List.mem_flatMap.1 (List.mem_of_getElem? ht)
            exact Hb.out p hp t htp) (fun j => ((ps[j]?).map (·.2.1.length)).getD 0) (fun j x hx => by
          rw [e19, List.getElem?_map, Option.map_eq_some_iff] at hx
          obtain ⟨p, hp, rfl⟩ := hx
          simp only [hp, Option.map_some, Option.getD_some]
          exact ⟨_, ((HV.out p (List.mem_of_getElem? hp)).grow hg).own⟩) Hd.out (by rw [e19, List.length_map, Hpl.out]; omega) (fun j => by
          cases hp : ps[j]? with
          | none => simp
          | some p =>
            simp only [Option.map_some, Option.getD_some]
            have h1 := (HV.out p (List.mem_of_getElem? hp)).len
            have h2 : p.2.2.length ≤ (ps.flatMap (·.2.2)).length := len_flatMap (List.mem_of_getElem? hp)
            have := HN.out
            omega)
      have Hcall := Lib.hid hcall
      clear hcall hbag hI
      go_wp2_with fail
      refine Hcall.out.mono ?_
      rintro e w3 ⟨rfl, hk3⟩
      go_wp2
      go_ret
      exact ⟨rfl, Keep.trans' (Keep.grow hg) hk3⟩
end Go.Proofs.YtbbjeokecgnfpaaGreat
