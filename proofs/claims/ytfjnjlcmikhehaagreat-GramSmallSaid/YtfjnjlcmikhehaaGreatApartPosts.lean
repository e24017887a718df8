/-
  The walks of mudlarkkit's bag.apart for rows of places and of postings, and of ApartPostings. Printed by gen/bagposts.py.
-/
import Derived.Test.YtfjnjlcmikhehaaGreatBagPosts
import Derived.Test.YtfjnjlcmikhehaaGreatFlatPlaces
import Derived.Test.YtfjnjlcmikhehaaGreatFlatPostings
import Derived.Test.YtfjnjlcmikhehaaGreatGramRP
import Derived.Test.YtfjnjlcmikhehaaGreatApartAll
namespace Go.Proofs.YtfjnjlcmikhehaaGreat
open Go.RowKit GramM
set_option linter.unusedVariables false
theorem flatBytes_nil (w : World) : Calls Tryz.prog 39 #[.slice none 0 0] w fun e w' => e = .returned (.bool true) ∧ Grow w w' :=
  (flatBytes_any w w.heap.size w.heap.size none 0 0 [] (fun _ => 0) (World.ownsRow_nil _ _ _ _) (fun j v h => by simp at h) (fun i j v v' b h => by simp at h) (Nat.le_refl _) (by omega) (fun _ => by omega)).mono fun _ _ ⟨h, hk, _⟩ =>
    ⟨h, hk.below (fun k ⟨j, v, hj, _⟩ => by simp at hj) (Nat.le_refl _)⟩

set_option maxRecDepth 100000 in
set_option maxHeartbeats 8000000 in
theorem apart_Posts (w : World) (g B Bt : Nat) (tabs : Nat → Value) (xs : Nat → List Value) (h : BagAt w g Bt tabs xs) (hnil : ∀ i, ([12, 13] : List Nat).contains i = false → xs i = []) (hB : B ≤ w.heap.size) (N12 : Nat → Nat) (hR12 : ∀ (j : Nat) (v : Value), (xs 12)[j]? = some v → ∃ L, w.ownsRow B 44 2 v (N12 j) L) (hd12 : DistV (xs 12)) (hm12 : (xs 12).length ≤ 100000) (hN12 : ∀ j, N12 j ≤ 1000000) (N13 : Nat → Nat) (hR13 : ∀ (j : Nat) (v : Value), (xs 13)[j]? = some v → ∃ L, w.ownsRow B 42 2 v (N13 j) L) (hd13 : DistV (xs 13)) (hm13 : (xs 13).length ≤ 100000) (hN13 : ∀ j, N13 j ≤ 1000000) :
    Calls Tryz.prog 25 #[.pointer (some ⟨g, 0, none⟩)] w fun e w' => e = .returned (.bool true) ∧ Keep (fun b => OwnS (xs 12) b ∨ OwnS (xs 13) b) w w' := by
  obtain ⟨m12, hmm12⟩ : ∃ m, m = (xs 12).length := ⟨_, rfl⟩
  have hT12 : w.ownsRow Bt 40 1 (tabs 12) (xs 12).length (xs 12) := h.own 12 (by decide)
  obtain ⟨A12, c12, e12, -, -, -⟩ := own_reads hT12
  rw [e12] at hT12
  rw [← hmm12] at e12 hT12 hm12
  obtain ⟨m13, hmm13⟩ : ∃ m, m = (xs 13).length := ⟨_, rfl⟩
  have hT13 : w.ownsRow Bt 28 1 (tabs 13) (xs 13).length (xs 13) := h.own 13 (by decide)
  obtain ⟨A13, c13, e13, -, -, -⟩ := own_reads hT13
  rw [e13] at hT13
  rw [← hmm13] at e13 hT13 hm13
  have HT12 := Lib.hid hT12
  have HR12 := Lib.hid hR12
  have Hd12 := Lib.hid hd12
  have HN12 := Lib.hid hN12
  have hgS12 : ¬ OwnS (xs 12) g := fun ⟨j, v, hv, hvb⟩ => by
    obtain ⟨L, hL⟩ := hR12 j v hv
    exact absurd (own_type_blk hL hvb h.blk) (by decide)
  have HT13 := Lib.hid hT13
  have HR13 := Lib.hid hR13
  have Hd13 := Lib.hid hd13
  have HN13 := Lib.hid hN13
  have hgS13 : ¬ OwnS (xs 13) g := fun ⟨j, v, hv, hvb⟩ => by
    obtain ⟨L, hL⟩ := hR13 j v hv
    exact absurd (own_type_blk hL hvb h.blk) (by decide)
  have hb0 : Blk w g 77 #[.slice none 0 0, .slice none 0 0, .slice none 0 0, .slice none 0 0, .slice none 0 0, .slice none 0 0, .slice none 0 0, .slice none 0 0, .slice none 0 0, .slice none 0 0, .slice none 0 0, .slice none 0 0, .slice A12 m12 c12, .slice A13 m13 c13, .slice none 0 0, .slice none 0 0, .slice none 0 0, .slice none 0 0, .slice none 0 0, .slice none 0 0, .slice none 0 0] := by
    have hb := h.blk
    simp only [bagF, e12, e13, h.nil 0 (by decide) (hnil 0 (by decide)), h.nil 1 (by decide) (hnil 1 (by decide)), h.nil 2 (by decide) (hnil 2 (by decide)), h.nil 3 (by decide) (hnil 3 (by decide)), h.nil 4 (by decide) (hnil 4 (by decide)), h.nil 5 (by decide) (hnil 5 (by decide)), h.nil 6 (by decide) (hnil 6 (by decide)), h.nil 7 (by decide) (hnil 7 (by decide)), h.nil 8 (by decide) (hnil 8 (by decide)), h.nil 9 (by decide) (hnil 9 (by decide)), h.nil 10 (by decide) (hnil 10 (by decide)), h.nil 11 (by decide) (hnil 11 (by decide)), h.nil 14 (by decide) (hnil 14 (by decide)), h.nil 15 (by decide) (hnil 15 (by decide)), h.nil 16 (by decide) (hnil 16 (by decide)), h.nil 17 (by decide) (hnil 17 (by decide)), h.nil 18 (by decide) (hnil 18 (by decide)), h.nil 19 (by decide) (hnil 19 (by decide)), h.nil 20 (by decide) (hnil 20 (by decide))] at hb
    exact hb
  have hK0 : Keep (fun _ => False) w w := Keep.refl _ w
  have hc0 := hb0.cell 0
  clear hT12 hR12 hd12 hN12 e12 hmm12 hT13 hR13 hd13 hN13 e13 hmm13 hnil h
  go_enter Tryz.func25, Tryz.ntmps25
  go_wp2_with (first | (go_at_call 34; refine (flatLimbs_nil _).mono ?_; rintro e w1 ⟨rfl, hg1⟩; have hb1 := hb0.below hg1 hb0.lt; have hK1 : Keep (fun _ => False) w w1 := hK0.trans' (Keep.grow hg1); have hc1 := hb1.cell 1) | (go_at_call 35; refine (flatWords_nil _).mono ?_; rintro e w2 ⟨rfl, hg2⟩; have hb2 := hb1.below hg2 hb1.lt; have hK2 : Keep (fun _ => False) w w2 := hK1.trans' (Keep.grow hg2); have hc2 := hb2.cell 2; clear hc1) | (go_at_call 36; refine (flatInts_nil _).mono ?_; rintro e w3 ⟨rfl, hg3⟩; have hb3 := hb2.below hg3 hb2.lt; have hK3 : Keep (fun _ => False) w w3 := hK2.trans' (Keep.grow hg3); have hc3 := hb3.cell 3; clear hc2) | (go_at_call 37; refine (flatLongs_nil _).mono ?_; rintro e w4 ⟨rfl, hg4⟩; have hb4 := hb3.below hg4 hb3.lt; have hK4 : Keep (fun _ => False) w w4 := hK3.trans' (Keep.grow hg4); have hc4 := hb4.cell 4; clear hc3) | (go_at_call 38; refine (flatTexts_nil _).mono ?_; rintro e w5 ⟨rfl, hg5⟩; have hb5 := hb4.below hg5 hb4.lt; have hK5 : Keep (fun _ => False) w w5 := hK4.trans' (Keep.grow hg5); have hc5 := hb5.cell 5; clear hc4) | (go_at_call 39; refine (flatBytes_nil _).mono ?_; rintro e w6 ⟨rfl, hg6⟩; have hb6 := hb5.below hg6 hb5.lt; have hK6 : Keep (fun _ => False) w w6 := hK5.trans' (Keep.grow hg6); have hc6 := hb6.cell 6; clear hc5) | (go_at_call 40; refine (flatTruths_nil _).mono ?_; rintro e w7 ⟨rfl, hg7⟩; have hb7 := hb6.below hg7 hb6.lt; have hK7 : Keep (fun _ => False) w w7 := hK6.trans' (Keep.grow hg7); have hc7 := hb7.cell 7; clear hc6) | (go_at_call 41; refine (flatNodes_nil _).mono ?_; rintro e w8 ⟨rfl, hg8⟩; have hb8 := hb7.below hg8 hb7.lt; have hK8 : Keep (fun _ => False) w w8 := hK7.trans' (Keep.grow hg8); have hc8 := hb8.cell 8; clear hc7) | (go_at_call 42; refine (flatInsts_nil _).mono ?_; rintro e w9 ⟨rfl, hg9⟩; have hb9 := hb8.below hg9 hb8.lt; have hK9 : Keep (fun _ => False) w w9 := hK8.trans' (Keep.grow hg9); have hc9 := hb9.cell 9; clear hc8) | (go_at_call 43; refine (flatQueries_nil _).mono ?_; rintro e w10 ⟨rfl, hg10⟩; have hb10 := hb9.below hg10 hb9.lt; have hK10 : Keep (fun _ => False) w w10 := hK9.trans' (Keep.grow hg10); have hc10 := hb10.cell 10; clear hc9) | (go_at_call 44; refine (flatFiles_nil _).mono ?_; rintro e w11 ⟨rfl, hg11⟩; have hb11 := hb10.below hg11 hb10.lt; have hK11 : Keep (fun _ => False) w w11 := hK10.trans' (Keep.grow hg11); have hc11 := hb11.cell 11; clear hc10) | (go_at_call 45; refine (flatDocs_nil _).mono ?_; rintro e w12 ⟨rfl, hg12⟩; have hb12 := hb11.below hg12 hb11.lt; have hK12 : Keep (fun _ => False) w w12 := hK11.trans' (Keep.grow hg12); have hc12 := hb12.cell 12; clear hc11) | (go_at_call 46; refine (flatPlaces_any _ B Bt A12 m12 c12 (xs 12) N12 (hK12.own HT12.out (fun _ _ h => h)) (fun j v hv => by obtain ⟨L, hL⟩ := HR12.out j v hv; exact ⟨L, hK12.own hL (fun _ _ h => h)⟩) Hd12.out (Nat.le_trans hB hK12.size) (by omega) HN12.out).mono ?_; rintro e w13 ⟨rfl, hk13⟩; have hb13 := hk13.blk hb12 hgS12; have hK13 : Keep (fun b => OwnS (xs 12) b) w w13 := Keep.trans' (Keep.mono hK12 (fun j hj => hj.elim)) (Keep.mono hk13 (fun j hj => Or.inl hj)); have hc13 := hb13.cell 13; clear hc12) | (go_at_call 47; refine (flatPostings_any _ B Bt A13 m13 c13 (xs 13) N13 (hK13.own HT13.out (fun b hb hs => sep_rows HR12.out HT13.out (by decide) b hb hs)) (fun j v hv => by obtain ⟨L, hL⟩ := HR13.out j v hv; exact ⟨L, hK13.own hL (fun b hb hs => sep_rows HR12.out hL (by decide) b hb hs)⟩) Hd13.out (Nat.le_trans hB hK13.size) (by omega) HN13.out).mono ?_; rintro e w14 ⟨rfl, hk14⟩; have hb14 := hk14.blk hb13 hgS13; have hK14 : Keep (fun b => OwnS (xs 12) b ∨ OwnS (xs 13) b) w w14 := Keep.trans' (Keep.mono hK13 (fun j hj => Or.inl (Or.inl hj))) (Keep.mono hk14 (fun j hj => Or.inl (Or.inr hj))); have hc14 := hb14.cell 14; clear hc13) | (go_at_call 48; refine (flatShardRefs_nil _).mono ?_; rintro e w15 ⟨rfl, hg15⟩; have hb15 := hb14.below hg15 hb14.lt; have hK15 : Keep (fun b => OwnS (xs 12) b ∨ OwnS (xs 13) b) w w15 := hK14.trans' (Keep.grow hg15); have hc15 := hb15.cell 15; clear hc14) | (go_at_call 49; refine (flatManifests_nil _).mono ?_; rintro e w16 ⟨rfl, hg16⟩; have hb16 := hb15.below hg16 hb15.lt; have hK16 : Keep (fun b => OwnS (xs 12) b ∨ OwnS (xs 13) b) w w16 := hK15.trans' (Keep.grow hg16); have hc16 := hb16.cell 16; clear hc15) | (go_at_call 50; refine (flatAsks_nil _).mono ?_; rintro e w17 ⟨rfl, hg17⟩; have hb17 := hb16.below hg17 hb16.lt; have hK17 : Keep (fun b => OwnS (xs 12) b ∨ OwnS (xs 13) b) w w17 := hK16.trans' (Keep.grow hg17); have hc17 := hb17.cell 17; clear hc16) | (go_at_call 51; refine (flatHits_nil _).mono ?_; rintro e w18 ⟨rfl, hg18⟩; have hb18 := hb17.below hg18 hb17.lt; have hK18 : Keep (fun b => OwnS (xs 12) b ∨ OwnS (xs 13) b) w w18 := hK17.trans' (Keep.grow hg18); have hc18 := hb18.cell 18; clear hc17) | (go_at_call 52; refine (flatAnswers_nil _).mono ?_; rintro e w19 ⟨rfl, hg19⟩; have hb19 := hb18.below hg19 hb18.lt; have hK19 : Keep (fun b => OwnS (xs 12) b ∨ OwnS (xs 13) b) w w19 := hK18.trans' (Keep.grow hg19); have hc19 := hb19.cell 19; clear hc18) | (go_at_call 53; refine (flatParts_nil _).mono ?_; rintro e w20 ⟨rfl, hg20⟩; have hb20 := hb19.below hg20 hb19.lt; have hK20 : Keep (fun b => OwnS (xs 12) b ∨ OwnS (xs 13) b) w w20 := hK19.trans' (Keep.grow hg20); have hc20 := hb20.cell 20; clear hc19) | (go_at_call 54; refine (flatChanges_nil _).mono ?_; rintro e w21 ⟨rfl, hg21⟩; have hb21 := hb20.below hg21 hb20.lt; have hK21 : Keep (fun b => OwnS (xs 12) b ∨ OwnS (xs 13) b) w w21 := hK20.trans' (Keep.grow hg21); clear hc20))
  go_ret
  exact ⟨rfl, hK21⟩

/-- a list of postings that was handed out -/
structure PQ where
  v : Value
  Q : List Gr
  f : Gr → List Nat
  F : Gr → Value
def bagPs (ps : List PQ) (i : Nat) : List Value := if i = 13 then ps.map (·.v) else if i = 12 then ps.flatMap fun p => p.Q.map p.F else []
theorem bagPs_succ (ps : List PQ) (p : PQ) : upd (upd (bagPs ps) 13 (bagPs ps 13 ++ [p.v])) 12 (bagPs ps 12 ++ p.Q.map p.F) = bagPs (ps ++ [p]) := by
  funext j
  by_cases h5 : j = 12
  · subst h5
    rw [upd_self]
    simp [bagPs]
  · rw [upd_ne _ _ h5]
    by_cases h19 : j = 13
    · subst h19
      rw [upd_self]
      simp [bagPs]
    · rw [upd_ne _ _ h19]
      simp [bagPs, h5, h19]
theorem len_posts : ∀ {ps : List PQ} {p : PQ}, p ∈ ps → p.Q.length ≤ (ps.flatMap fun p => p.Q.map p.F).length
  | [], _, h => by cases h
  | a :: r, p, h => by
    rw [List.flatMap_cons, List.length_append, List.length_map]
    rcases List.mem_cons.1 h with rfl | h
    · omega
    · have := len_posts h
      omega
/-- how long the places are -/
def lenPs (ps : List PQ) : List Nat := ps.flatMap fun p => p.Q.map fun g => (p.f g).length
theorem each_posts {B : Nat} {w : World} : ∀ {ps : List PQ}, (∀ p ∈ ps, RP w B p.v p.Q p.f p.F) → ∀ (j : Nat) (x : Value), (ps.flatMap fun p => p.Q.map p.F)[j]? = some x → ∃ n L, (lenPs ps)[j]? = some n ∧ w.ownsRow B 44 2 x n L
  | [], _, j, x, hx => by simp at hx
  | p :: r, h, j, x, hx => by
    have hp := h p (by simp)
    unfold lenPs
    rw [List.flatMap_cons] at hx ⊢
    by_cases hj : j < p.Q.length
    · rw [List.getElem?_append_left (by rw [List.length_map]; exact hj), List.getElem?_map, Option.map_eq_some_iff] at hx
      obtain ⟨g, hg, rfl⟩ := hx
      rw [List.getElem?_append_left (by rw [List.length_map]; exact hj), List.getElem?_map, hg]
      exact ⟨_, _, rfl, hp.own g (List.mem_of_getElem? hg)⟩
    · rw [List.getElem?_append_right (by rw [List.length_map]; omega), List.length_map] at hx
      rw [List.getElem?_append_right (by rw [List.length_map]; omega), List.length_map]
      exact each_posts (fun q hq => h q (by simp [hq])) _ x hx

set_option maxRecDepth 100000 in
set_option maxHeartbeats 4000000 in
theorem ApartPostings_any (w : World) (B Bw : Nat) (A : Option Addr) (m c : Nat) (ps : List PQ) (hR : ReadsAt w Bw 1 A m (ps.map (·.v))) (hBw : Bw ≤ w.heap.size) (hV : ∀ p ∈ ps, RP w B p.v p.Q p.f p.F) (hd : DistV (ps.map (·.v))) (hd2 : DistV (ps.flatMap fun p => p.Q.map p.F))
    (hB : B ≤ w.heap.size) (hm : m ≤ 1000) (hN : (ps.flatMap fun p => p.Q.map p.F).length ≤ 100000) (hb : ∀ n ∈ lenPs ps, n ≤ 1000000) :
    Calls Tryz.prog 18 #[.slice A m c] w fun e w' => e = .returned (.bool true) ∧ Keep (fun b => OwnS (ps.flatMap fun p => p.Q.map p.F) b ∨ OwnS (ps.map (·.v)) b) w w' := by
  have hpl : ps.length = m := by have := hR.1; simpa using this
  have Hpl := Lib.hid hpl
  have HV := Lib.hid hV
  have Hd := Lib.hid hd
  have Hd2 := Lib.hid hd2
  have HN := Lib.hid hN
  have Hb := Lib.hid hb
  have hI0 : ∃ tabs, BagAt (w.alloc (.cells (bagF fun _ => .slice none 0 0) 77)) w.heap.size w.heap.size tabs (bagPs (ps.take 0)) ∧ Grow w (w.alloc (.cells (bagF fun _ => .slice none 0 0) 77)) :=
    ⟨_, by rw [show bagPs (ps.take 0) = fun _ => [] by funext j; simp [bagPs]]; exact BagAt.new w, Grow.alloc _ _⟩
  have HI0 := Lib.hid hI0
  clear hpl hV hd hd2 hN hb hI0
  go_enter Tryz.func18, Tryz.ntmps18
  go_wp2_with fail
  go_loopw [4] (fun v4 wr => ∃ k : Nat, k ≤ m ∧ v4 = .int .i64 (k : Int) ∧ Hid (∃ tabs, BagAt wr w.heap.size w.heap.size tabs (bagPs (ps.take k)) ∧ Grow w wr)) (fun v4 _ => m - (intOf v4).toNat)
  case atStart => exact ⟨0, by omega, rfl, HI0⟩
  case round =>
    clear HI0
    obtain ⟨k, hk, rfl, hI⟩ := hrel
    obtain ⟨tabs, hbag, hg⟩ := hI.out
    have hgz := hg.size
    by_cases hlt : k < m
    · obtain ⟨p, hp⟩ : ∃ p, ps[k]? = some p := ⟨_, List.getElem?_eq_getElem (by rw [Hpl.out]; exact hlt)⟩
      obtain ⟨b, off, rfl, hbB, hcl⟩ := hR.2 (by omega)
      have hpm : p ∈ ps := List.mem_of_getElem? hp
      have hcv : wr.cell? ⟨b, off + k, none⟩ = some p.v := (hg.cell (p := ⟨b, off + k, none⟩) (by show b < w.heap.size; omega)).trans (hcl k p.v (by rw [List.getElem?_map, hp]; rfl))
      have hP := (HV.out p hpm).grow hg
      obtain ⟨A1, c1, e1, -, -, -⟩ := own_reads hP.row
      obtain ⟨n, hn⟩ : ∃ n, n = p.Q.length := ⟨_, rfl⟩
      rw [← hn] at e1
      rw [e1] at hcv
      have hxk : bagPs (ps.take k ++ [p]) = bagPs (ps.take (k + 1)) := by rw [List.take_add_one, hp]; rfl
      have h5 : (bagPs (ps.take k) 12).length + n ≤ 100000 := by
        have h1 : (bagPs (ps.take k) 12).length + (p.Q.map p.F).length = ((ps.take (k + 1)).flatMap fun p => p.Q.map p.F).length := by
          rw [List.take_add_one, hp]
          simp [bagPs]
        rw [List.length_map, ← hn] at h1
        have h2 : ((ps.take (k + 1)).flatMap fun p => p.Q.map p.F) <+: ps.flatMap fun p => p.Q.map p.F := by
          have h3 : (ps.flatMap fun p => p.Q.map p.F) = ((ps.take (k + 1)).flatMap fun p => p.Q.map p.F) ++ (ps.drop (k + 1)).flatMap fun p => p.Q.map p.F := by rw [← List.flatMap_append, List.take_append_drop]
          rw [h3]
          exact List.prefix_append _ _
        have h4 := h2.length_le
        have := HN.out
        omega
      have h19 : (bagPs (ps.take k) 13).length ≤ 1000000 := by simp [bagPs]; omega
      have hcall := putPostings_bag wr w.heap.size w.heap.size tabs (bagPs (ps.take k)) A1 n c1 (p.Q.map fun g => (grS g, p.F g)) hbag (fun j q hq => by
        rw [List.getElem?_map, Option.map_eq_some_iff] at hq
        obtain ⟨g, hz, rfl⟩ := hq
        obtain ⟨A2, c2, e2, -⟩ := own_reads (hP.own g (List.mem_of_getElem? hz))
        exact ⟨A2, _, c2, e2⟩) (by rw [List.length_map, hn]) (fun j q hq => by
        rw [List.getElem?_map, Option.map_eq_some_iff] at hq
        obtain ⟨g, hz, rfl⟩ := hq
        have hjl : j < n := by rw [hn]; exact (List.getElem?_eq_some_iff.1 hz).1
        have hown := (HV.out p hpm).row
        rw [e1, ← hn] at hown
        obtain ⟨b1, cap1, e3, -, -, -⟩ := own_slice hown (by omega)
        injection e3 with e3 e4 e5
        refine ⟨b1, 0, e3, ?_, fun i u hu => ?_⟩
        · rw [e3] at hown
          exact (hown.lt b1 rfl).2
        · have hown2 := hP.row
          rw [e1, ← hn, e3] at hown2
          have hi : i < 2 := by
            have := (List.getElem?_eq_some_iff.1 hu).1
            simpa [postCells] using this
          have h9 := poC_at (F := p.F) hz
          rw [Nat.zero_add, hown2.cellAt _ (by omega)]
          rcases Nat.lt_or_ge i 1 with h10 | h10
          · obtain rfl : i = 0 := by omega
            rw [Nat.add_zero, h9.1]
            simpa [postCells] using hu
          · obtain rfl : i = 1 := by omega
            rw [h9.2]
            simpa [postCells] using hu) (by omega) h19 hgz
      rw [show (p.Q.map fun g => (grS g, p.F g)).map (fun q => q.2) = p.Q.map p.F by rw [List.map_map]; rfl, ← e1, bagPs_succ, hxk, e1] at hcall
      have Hcall := Lib.hid hcall
      clear hcall hbag hcl hI hP hxk h5 h19 hp e1 hn
      go_wp2_with fail
      refine Hcall.out.mono ?_
      rintro e w2 ⟨rfl, ⟨tabs2, hb2⟩, hl2⟩
      have HI2 := Lib.hid (show ∃ tabs, BagAt w2 w.heap.size w.heap.size tabs (bagPs (ps.take (k + 1))) ∧ Grow w w2 from ⟨tabs2, hb2, Below.trans hg hl2⟩)
      clear hb2 hl2
      go_wp2
      go_roundw
      case rel => exact ⟨k + 1, by omega, by go_num, HI2⟩
      case measure => simp [intOf]; omega
    · obtain rfl : m = k := by omega
      rw [List.take_of_length_le (by rw [Hpl.out]; exact Nat.le_refl _)] at hbag
      have e5 : bagPs ps 12 = ps.flatMap fun p => p.Q.map p.F := rfl
      have e19 : bagPs ps 13 = ps.map (·.v) := rfl
      have hcall := apart_Posts wr w.heap.size B w.heap.size tabs (bagPs ps) hbag (fun i hi => by
        have h1 : i ≠ 12 := fun h => by subst h; cases hi
        have h2 : i ≠ 13 := fun h => by subst h; cases hi
        simp [bagPs, h1, h2]) (Nat.le_trans hB hgz) (fun j => ((lenPs ps)[j]?).getD 0) (fun j x hx => by
          obtain ⟨n, L, hn, ho⟩ := each_posts (fun p hp => (HV.out p hp).grow hg) j x hx
          simp only [hn, Option.getD_some]
          exact ⟨_, ho⟩) Hd2.out HN.out (fun j => by
          cases ht : (lenPs ps)[j]? with
          | none => simp
          | some t =>
            simp only [Option.getD_some]
            exact Hb.out t (List.mem_of_getElem? ht)) (fun j => ((ps[j]?).map (·.Q.length)).getD 0) (fun j x hx => by
          rw [e19, List.getElem?_map, Option.map_eq_some_iff] at hx
          obtain ⟨p, hp, rfl⟩ := hx
          simp only [hp, Option.map_some, Option.getD_some]
          exact ⟨_, ((HV.out p (List.mem_of_getElem? hp)).grow hg).row⟩) Hd.out (by rw [e19, List.length_map, Hpl.out]; omega) (fun j => by
          cases hp : ps[j]? with
          | none => simp
          | some p =>
            simp only [Option.map_some, Option.getD_some]
            have h2 := len_posts (List.mem_of_getElem? hp)
            have := HN.out
            omega)
      have Hcall := Lib.hid hcall
      clear hcall hbag hI
      go_wp2_with fail
      refine Hcall.out.mono ?_
      rintro e w3 ⟨rfl, hk3⟩
      go_wp2
      go_ret
      exact ⟨rfl, Keep.trans' (Keep.grow hg) hk3⟩
end Go.Proofs.YtfjnjlcmikhehaaGreat
