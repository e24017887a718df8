/-
  The walks of mudlarkkit's ApartBytes and what it calls: rows of bytes that lie apart are found to lie apart. Printed by gen/apart.py.
-/
import Derived.Great.Walk
import Derived.Test.YtbbjeokecgnfpaaGreatFlatNil
import Derived.Test.YtbbjeokecgnfpaaGreatFlatBytes
namespace Go.Proofs.YtbbjeokecgnfpaaGreat
open Go.RowKit

/-- the cells of a bag that holds rows of bytes alone -/
abbrev bagV (tab : Value) : Array Value := #[.slice none 0 0, .slice none 0 0, .slice none 0 0, .slice none 0 0, .slice none 0 0, tab, .slice none 0 0, .slice none 0 0, .slice none 0 0, .slice none 0 0, .slice none 0 0, .slice none 0 0, .slice none 0 0, .slice none 0 0, .slice none 0 0, .slice none 0 0, .slice none 0 0, .slice none 0 0, .slice none 0 0, .slice none 0 0, .slice none 0 0]

set_option maxRecDepth 100000 in
set_option maxHeartbeats 8000000 in
theorem apart_any (w : World) (g B Bt : Nat) (A : Option Addr) (m c : Nat) (vs : List Value) (N : Nat → Nat) (hb : Blk w g 83 (bagV (.slice A m c))) (hT : w.ownsRow Bt 26 1 (.slice A m c) m vs) (hV : ∀ (j : Nat) (v : Value), vs[j]? = some v → ∃ L, w.ownsRow B 5 1 v (N j) L) (hd : DistV vs)
    (hB : B ≤ w.heap.size) (hm : m ≤ 1000000) (hN : ∀ j, N j ≤ 1000000000) :
    Calls Tryz.prog 36 #[.pointer (some ⟨g, 0, none⟩)] w fun e w' => e = .returned (.bool true) ∧ Keep (OwnS vs) w w' ∧ RowsMarked w' B vs N := by
  have hgS : ¬ OwnS vs g := fun ⟨j, v, hv, hvb⟩ => by
    obtain ⟨L, hL⟩ := hV j v hv
    exact absurd (own_type_blk hL hvb hb) (by decide)
  have hb0 := hb
  have hG0 : Grow w w := Grow.refl w
  have hc0 := hb0.cell 0
  have HV := Lib.hid hV
  have Hd := Lib.hid hd
  have HN := Lib.hid hN
  clear hV hd hN hb
  go_enter Tryz.func36, Tryz.ntmps36
  go_wp2_with (first | (go_at_call 54; refine (flatLimbs_nil _).mono ?_; rintro e w1 ⟨rfl, hg1⟩; have hb1 := hb0.below hg1 hb0.lt; have hG1 : Grow w w1 := hG0.trans hg1; have hc1 := hb1.cell 1) | (go_at_call 55; refine (flatWords_nil _).mono ?_; rintro e w2 ⟨rfl, hg2⟩; have hb2 := hb1.below hg2 hb1.lt; have hG2 : Grow w w2 := hG1.trans hg2; have hc2 := hb2.cell 2; clear hc1) | (go_at_call 56; refine (flatInts_nil _).mono ?_; rintro e w3 ⟨rfl, hg3⟩; have hb3 := hb2.below hg3 hb2.lt; have hG3 : Grow w w3 := hG2.trans hg3; have hc3 := hb3.cell 3; clear hc2) | (go_at_call 57; refine (flatLongs_nil _).mono ?_; rintro e w4 ⟨rfl, hg4⟩; have hb4 := hb3.below hg4 hb3.lt; have hG4 : Grow w w4 := hG3.trans hg4; have hc4 := hb4.cell 4; clear hc3) | (go_at_call 58; refine (flatTexts_nil _).mono ?_; rintro e w5 ⟨rfl, hg5⟩; have hb5 := hb4.below hg5 hb4.lt; have hG5 : Grow w w5 := hG4.trans hg5; have hc5 := hb5.cell 5; clear hc4) | (go_at_call 59; refine (flatBytes_any _ B Bt A m c vs N (own_below hT hG5) (fun j v hv => by obtain ⟨L, hL⟩ := HV.out j v hv; exact ⟨L, own_below hL hG5⟩) Hd.out (Nat.le_trans hB hG5.size) hm HN.out).mono ?_; rintro e w6 ⟨rfl, hk6, hM6⟩; have hb6 := hk6.blk hb5 hgS; have hK6 : Keep (OwnS vs) w w6 := Keep.trans' (Keep.grow hG5) hk6; have hc6 := hb6.cell 6; clear hc5) | (go_at_call 60; refine (flatTruths_nil _).mono ?_; rintro e w7 ⟨rfl, hg7⟩; have hb7 := hb6.below hg7 hb6.lt; have hK7 : Keep (OwnS vs) w w7 := hK6.trans' (Keep.grow hg7); have hM7 := hM6.grow hg7; have hc7 := hb7.cell 7; clear hc6) | (go_at_call 61; refine (flatNodes_nil _).mono ?_; rintro e w8 ⟨rfl, hg8⟩; have hb8 := hb7.below hg8 hb7.lt; have hK8 : Keep (OwnS vs) w w8 := hK7.trans' (Keep.grow hg8); have hM8 := hM7.grow hg8; have hc8 := hb8.cell 8; clear hc7) | (go_at_call 62; refine (flatInsts_nil _).mono ?_; rintro e w9 ⟨rfl, hg9⟩; have hb9 := hb8.below hg9 hb8.lt; have hK9 : Keep (OwnS vs) w w9 := hK8.trans' (Keep.grow hg9); have hM9 := hM8.grow hg9; have hc9 := hb9.cell 9; clear hc8) | (go_at_call 63; refine (flatQueries_nil _).mono ?_; rintro e w10 ⟨rfl, hg10⟩; have hb10 := hb9.below hg10 hb9.lt; have hK10 : Keep (OwnS vs) w w10 := hK9.trans' (Keep.grow hg10); have hM10 := hM9.grow hg10; have hc10 := hb10.cell 10; clear hc9) | (go_at_call 64; refine (flatFiles_nil _).mono ?_; rintro e w11 ⟨rfl, hg11⟩; have hb11 := hb10.below hg11 hb10.lt; have hK11 : Keep (OwnS vs) w w11 := hK10.trans' (Keep.grow hg11); have hM11 := hM10.grow hg11; have hc11 := hb11.cell 11; clear hc10) | (go_at_call 65; refine (flatDocs_nil _).mono ?_; rintro e w12 ⟨rfl, hg12⟩; have hb12 := hb11.below hg12 hb11.lt; have hK12 : Keep (OwnS vs) w w12 := hK11.trans' (Keep.grow hg12); have hM12 := hM11.grow hg12; have hc12 := hb12.cell 12; clear hc11) | (go_at_call 66; refine (flatPlaces_nil _).mono ?_; rintro e w13 ⟨rfl, hg13⟩; have hb13 := hb12.below hg13 hb12.lt; have hK13 : Keep (OwnS vs) w w13 := hK12.trans' (Keep.grow hg13); have hM13 := hM12.grow hg13; have hc13 := hb13.cell 13; clear hc12) | (go_at_call 67; refine (flatPostings_nil _).mono ?_; rintro e w14 ⟨rfl, hg14⟩; have hb14 := hb13.below hg14 hb13.lt; have hK14 : Keep (OwnS vs) w w14 := hK13.trans' (Keep.grow hg14); have hM14 := hM13.grow hg14; have hc14 := hb14.cell 14; clear hc13) | (go_at_call 68; refine (flatShardRefs_nil _).mono ?_; rintro e w15 ⟨rfl, hg15⟩; have hb15 := hb14.below hg15 hb14.lt; have hK15 : Keep (OwnS vs) w w15 := hK14.trans' (Keep.grow hg15); have hM15 := hM14.grow hg15; have hc15 := hb15.cell 15; clear hc14) | (go_at_call 69; refine (flatManifests_nil _).mono ?_; rintro e w16 ⟨rfl, hg16⟩; have hb16 := hb15.below hg16 hb15.lt; have hK16 : Keep (OwnS vs) w w16 := hK15.trans' (Keep.grow hg16); have hM16 := hM15.grow hg16; have hc16 := hb16.cell 16; clear hc15) | (go_at_call 70; refine (flatAsks_nil _).mono ?_; rintro e w17 ⟨rfl, hg17⟩; have hb17 := hb16.below hg17 hb16.lt; have hK17 : Keep (OwnS vs) w w17 := hK16.trans' (Keep.grow hg17); have hM17 := hM16.grow hg17; have hc17 := hb17.cell 17; clear hc16) | (go_at_call 71; refine (flatHits_nil _).mono ?_; rintro e w18 ⟨rfl, hg18⟩; have hb18 := hb17.below hg18 hb17.lt; have hK18 : Keep (OwnS vs) w w18 := hK17.trans' (Keep.grow hg18); have hM18 := hM17.grow hg18; have hc18 := hb18.cell 18; clear hc17) | (go_at_call 72; refine (flatAnswers_nil _).mono ?_; rintro e w19 ⟨rfl, hg19⟩; have hb19 := hb18.below hg19 hb18.lt; have hK19 : Keep (OwnS vs) w w19 := hK18.trans' (Keep.grow hg19); have hM19 := hM18.grow hg19; have hc19 := hb19.cell 19; clear hc18) | (go_at_call 73; refine (flatParts_nil _).mono ?_; rintro e w20 ⟨rfl, hg20⟩; have hb20 := hb19.below hg20 hb19.lt; have hK20 : Keep (OwnS vs) w w20 := hK19.trans' (Keep.grow hg20); have hM20 := hM19.grow hg20; have hc20 := hb20.cell 20; clear hc19) | (go_at_call 74; refine (flatChanges_nil _).mono ?_; rintro e w21 ⟨rfl, hg21⟩; have hb21 := hb20.below hg21 hb20.lt; have hK21 : Keep (OwnS vs) w w21 := hK20.trans' (Keep.grow hg21); have hM21 := hM20.grow hg21; clear hc20))
  go_ret
  exact ⟨rfl, hK21, hM21⟩

set_option maxRecDepth 100000 in
set_option maxHeartbeats 2000000 in
theorem putBytes_any (w : World) (g Bt : Nat) (tab : Value) (n : Nat) (xs : List Value) (A : Option Addr) (l c : Nat) (hb : Blk w g 83 (bagV tab)) (hT : w.ownsRow Bt 26 1 tab n xs) (hn : n ≤ 1000000) (hB : Bt ≤ w.heap.size) :
    Calls Tryz.prog 35 #[.pointer (some ⟨g, 0, none⟩), .slice A l c] w fun e w' => e = .returned (.tuple #[]) ∧ ∃ tab', Blk w' g 83 (bagV tab') ∧ w'.ownsRow Bt 26 1 tab' (n + 1) (xs ++ [.slice A l c]) ∧ Keep (fun k => k = g ∨ tab.ownBlock = some k) w w' := by
  have rowsTy : AppTy Tryz.prog 34 26 (.slice none 0 0) 1 24 := AppTy.mk' Tryz.underlying34 (by kernel_rfl) rfl (by decide)
  have hgt : tab.ownBlock ≠ some g := fun h => absurd (own_type_blk hT h hb) (by decide)
  have hc5 := hb.cell 5
  have hT1 := own_below hT (Grow.alloc w (.cells #[.slice A l c] 26))
  have hb1 := hb.alloc (.cells #[.slice A l c] 26)
  have hbz : Bt ≤ (w.alloc (.cells #[.slice A l c] 26)).heap.size := by simp; omega
  obtain ⟨A5, c5, rfl, -, -, -⟩ := own_reads hT
  go_enter Tryz.func35, Tryz.ntmps35
  go_wp2_with (at_builtin; refine wpList_append_reads _ rfl (.tmp 8) (.tmp 10) rfl rowsTy rfl hT1 rfl (ReadsAt.made1 w 26 (.slice A l c)) (by simp [Value.oneCell']) (by simp only [maxLen]; omega) (by omega) hbz ?_; intro v' w2 hown2 hgr2 hat2; have hb2 := (Keep.grown hgr2).blk hb1 hgt; have hf2 := hb2.frozen 5; have hd2 := hb2.cell 5; have hb3 := hb2.set 5 v'; have hn2 : v'.ownBlock ≠ some g := (fun h => absurd (own_type_blk hown2 h hb2) (by decide)); have ho3 := (Keep.setCell w2 ⟨g, 5, none⟩ v').own hown2 (fun k hk hk2 => hn2 (by rw [hk, hk2])); have hk3 : Keep (fun k => k = g ∨ (Value.slice A5 n c5).ownBlock = some k) w (w2.setCell ⟨g, 5, none⟩ v') := ((Keep.alloc w _).trans' ((Keep.grown hgr2).mono fun j hj => Or.inl (Or.inr hj))).trans' ((Keep.setCell w2 ⟨g, 5, none⟩ v').mono fun j hj => Or.inl (Or.inl hj)); obtain ⟨A6, c6, rfl, -, -, -⟩ := own_reads hown2; clear hown2 hgr2 hat2 hb2)
  (try simp only [Exit.inBlock, Exit.then])
  refine Go.Great.bodyPost_end0 rfl rfl ?_
  refine ⟨rfl, _, ?_, ho3, hk3⟩
  simpa using hb3

set_option maxRecDepth 100000 in
set_option maxHeartbeats 2000000 in
theorem ApartBytes_any (w : World) (B Bw : Nat) (A : Option Addr) (m c : Nat) (vs : List Value) (N : Nat → Nat) (hR : ReadsAt w Bw 1 A m vs) (hBw : Bw ≤ w.heap.size) (hV : ∀ (j : Nat) (v : Value), vs[j]? = some v → ∃ L, w.ownsRow B 5 1 v (N j) L) (hd : DistV vs)
    (hB : B ≤ w.heap.size) (hm : m ≤ 1000000) (hN : ∀ j, N j ≤ 1000000000) :
    Calls Tryz.prog 13 #[.slice A m c] w fun e w' => e = .returned (.bool true) ∧ Keep (OwnS vs) w w' ∧ RowsMarked w' B vs N := by
  have hvl : vs.length = m := by have := hR.1; omega
  have Hvl := Lib.hid hvl
  have HV := Lib.hid hV
  have Hd := Lib.hid hd
  have HN := Lib.hid hN
  have hI0 : ∃ tab, Blk (w.alloc (.cells (bagV (.slice none 0 0)) 83)) w.heap.size 83 (bagV tab) ∧ (w.alloc (.cells (bagV (.slice none 0 0)) 83)).ownsRow w.heap.size 26 1 tab 0 (vs.take 0) ∧ Grow w (w.alloc (.cells (bagV (.slice none 0 0)) 83)) :=
    ⟨_, Blk.new _ _ _, by rw [List.take_zero]; exact World.ownsRow_nil _ _ _ _, Grow.alloc _ _⟩
  have HI0 := Lib.hid hI0
  clear hvl hV hd hN hI0
  go_enter Tryz.func13, Tryz.ntmps13
  go_wp2_with fail
  go_loopw [4] (fun v4 wr => ∃ k : Nat, k ≤ m ∧ v4 = .int .i64 (k : Int) ∧ Hid (∃ tab, Blk wr w.heap.size 83 (bagV tab) ∧ wr.ownsRow w.heap.size 26 1 tab k (vs.take k) ∧ Grow w wr)) (fun v4 _ => m - (intOf v4).toNat)
  case atStart => exact ⟨0, by omega, rfl, HI0⟩
  case round =>
    clear HI0
    obtain ⟨k, hk, rfl, hI⟩ := hrel
    obtain ⟨tab, hb, hT, hg⟩ := hI.out
    have hgz := hg.size
    have hgl := hb.lt
    by_cases hlt : k < m
    · obtain ⟨v, hv⟩ : ∃ v, vs[k]? = some v := ⟨_, List.getElem?_eq_getElem (by rw [Hvl.out]; exact hlt)⟩
      obtain ⟨b, off, rfl, hbB, hcl⟩ := hR.2 (by omega)
      have hcv : wr.cell? ⟨b, off + k, none⟩ = some v := (hg.cell (p := ⟨b, off + k, none⟩) (by show b < w.heap.size; omega)).trans (hcl k v hv)
      obtain ⟨L, hL⟩ := HV.out k v hv
      obtain ⟨A1, c1, rfl, -, -, -⟩ := own_reads hL
      obtain ⟨n, hn⟩ : ∃ n, n = N k := ⟨_, rfl⟩
      rw [← hn] at hcv hv hL
      have Hv := Lib.hid hv
      have hT2 := hT
      have Hb := Lib.hid hb
      have HT := Lib.hid hT
      clear hv hL hcl hn hb hT hT2 hI
      go_wp2_with (go_at_call 35; refine (putBytes_any _ w.heap.size w.heap.size tab k (vs.take k) A1 n c1 Hb.out HT.out (by omega) hgz).mono ?_; rintro e w2 ⟨rfl, tab2, hb2, hT2, hk2⟩)
      have hg2 : Grow w w2 := Below.trans hg (hk2.below (fun j hj => by rcases hj with rfl | hj; exact Nat.le_refl _; exact (HT.out.lt j hj).1) hgz)
      rw [show vs.take k ++ [.slice A1 n c1] = vs.take (k + 1) by rw [List.take_add_one, Hv.out]; rfl] at hT2
      have HI2 := Lib.hid (show ∃ tab, Blk w2 w.heap.size 83 (bagV tab) ∧ w2.ownsRow w.heap.size 26 1 tab (k + 1) (vs.take (k + 1)) ∧ Grow w w2 from ⟨tab2, hb2, hT2, hg2⟩)
      clear hb2 hT2 hk2 hg2
      go_roundw
      case rel => exact ⟨k + 1, by omega, by go_num, HI2⟩
      case measure => simp [intOf]; omega
    · obtain rfl : m = k := by omega
      rw [List.take_of_length_le (by rw [Hvl.out]; exact Nat.le_refl _)] at hT
      obtain ⟨A5, c5, rfl, -, -, -⟩ := own_reads hT
      go_wp2_with (go_at_call 36; refine (apart_any wr w.heap.size B w.heap.size A5 m c5 vs N hb hT (fun j v hv => by obtain ⟨L, hL⟩ := HV.out j v hv; exact ⟨L, own_below hL hg⟩) Hd.out (Nat.le_trans hB hgz) hm HN.out).mono ?_; rintro e w3 ⟨rfl, hk3, hM3⟩)
      go_ret
      exact ⟨rfl, Keep.trans' (Keep.grow hg) hk3, hM3⟩
end Go.Proofs.YtbbjeokecgnfpaaGreat
