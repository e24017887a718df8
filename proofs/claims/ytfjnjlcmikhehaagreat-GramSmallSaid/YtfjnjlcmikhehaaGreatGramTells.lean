/-
  The walk of the law GramTells.
-/
import Derived.Test.YtfjnjlcmikhehaaGreatGramAwake
import Derived.Test.YtfjnjlcmikhehaaGreatGramAt
import Derived.Test.YtfjnjlcmikhehaaGreatGramRun
import Derived.Test.YtfjnjlcmikhehaaGreatGramRef2
import Derived.Test.YtfjnjlcmikhehaaGreatApartTexts
namespace Go.Proofs.YtfjnjlcmikhehaaGreat
open Go.RowKit Go.Shelf GramM
set_option linter.unusedVariables false
theorem PostsTo.rp {w : World} {gs : List Gr} {e : Ending} {w' : World} (h : PostsTo w gs e w') : RPostsTo w gs e w' := by
  obtain ⟨v, F, rfl, hg, hr, ho, ha⟩ := h
  have hm : ∀ g, g ∈ sortG (firsts [] gs) ↔ g ∈ firsts [] gs := fun g => (sortG_perm _).mem_iff
  exact ⟨v, F, rfl, hg, hr, fun g hgm => ho g ((hm g).1 hgm), fun g h1 h h2 => ha g ((hm g).1 h1) h ((hm h).1 h2)⟩
theorem atV_is (gs : List Gr) (i : Int) : ∃ x o, atV gs i = .tuple #[.string x, .bool o] := by
  unfold atV
  split
  · exact ⟨_, _, rfl⟩
  · exact ⟨_, _, rfl⟩
theorem RP.fat {W : World} {base B : Nat} {u : Value} {Q : List Gr} {f : Gr → List Nat} {F : Gr → Value} (h : RP W base u Q f F) (hf : ∀ g, (f g).length ≤ 2000) (hB : W.heap.size ≤ B) : FAt W B Q F f := fun g hg => by
  obtain ⟨A, c, e, -, -, hr⟩ := own_reads (h.own g hg)
  exact ⟨A, c, e, hr.more hB, hf g⟩
theorem RP.moved {W W' : World} {base : Nat} {u : Value} {Q : List Gr} {f : Gr → List Nat} {F : Gr → Value} {S : Nat → Prop} (h : RP W base u Q f F) (hk : Keep S W W') (hS : ∀ j, S j → ∀ cs, W.heap[j]? ≠ some (.cells cs 42 (0, 0)) ∧ W.heap[j]? ≠ some (.cells cs 44 (0, 0))) : RP W' base u Q f F :=
  ⟨hk.own h.row fun j hj hs => by
    obtain ⟨cs, q⟩ := own_obj h.row hj
    exact (hS j hs cs).1 q, fun g hg => hk.own (h.own g hg) fun j hj hs => by
    obtain ⟨cs, q⟩ := own_obj (h.own g hg) hj
    exact (hS j hs cs).2 q, h.apart⟩
theorem own_at {w : World} {base e size n m c : Nat} {A : Option Addr} {xs : List Value} (h : w.ownsRow base e size (.slice A n c) m xs) : ReadsAt w w.heap.size size A m xs := by
  obtain ⟨A', c', e', -, -, hr⟩ := own_reads h
  injection e' with e1 _ _
  rw [e1]
  exact hr
theorem RP.base {W : World} {base base' : Nat} {u : Value} {Q : List Gr} {f : Gr → List Nat} {F : Gr → Value} (h : RP W base u Q f F) (hb : base' ≤ base) : RP W base' u Q f F := ⟨own_base h.row hb, fun g hg => own_base (h.own g hg) hb, h.apart⟩
theorem own_texts {W : World} {base n : Nat} {v : Value} {gs : List Gr} (h : W.ownsRow base 9 1 v n (grT gs)) : ∃ A c, v = .slice A n c ∧ n ≤ maxLen ∧ TextsAt W W.heap.size A n (gs.map grS) := by
  obtain ⟨A, c, e, h1, h2, h3⟩ := own_reads h
  refine ⟨A, c, e, Nat.le_trans h1 h2, ?_⟩
  unfold TextsAt
  rw [List.map_map]
  exact h3
theorem DistV_map {Q : List Gr} {F : Gr → Value} (hn : Q.Nodup) (h : ∀ g ∈ Q, ∀ h ∈ Q, g ≠ h → ∀ b, (F g).ownBlock = some b → (F h).ownBlock ≠ some b) : DistV (Q.map F) := fun i j v v' b hi hj hne hb => by
  rw [List.getElem?_map, Option.map_eq_some_iff] at hi hj
  obtain ⟨g, hg, rfl⟩ := hi
  obtain ⟨g', hg', rfl⟩ := hj
  refine h g (List.mem_of_getElem? hg) g' (List.mem_of_getElem? hg') (fun e => hne ?_) b hb
  obtain ⟨h1, h2⟩ := List.getElem?_eq_some_iff.1 hg
  obtain ⟨h3, h4⟩ := List.getElem?_eq_some_iff.1 hg'
  have hp := List.pairwise_iff_getElem.1 hn
  rcases Nat.lt_trichotomy i j with h5 | h5 | h5
  · exact absurd (by rw [h2, h4, e]) (hp i j h1 h3 h5)
  · exact h5
  · exact absurd (by rw [h2, h4, e]) (hp j i h3 h1 h5)
theorem DistV_app {L M : List Value} (z : Nat) (hL : DistV L) (hM : DistV M) (h1 : ∀ v ∈ L, ∀ b, v.ownBlock = some b → b < z) (h2 : ∀ v ∈ M, ∀ b, v.ownBlock = some b → z ≤ b) : DistV (L ++ M) := fun i j v v' b hi hj hne hb => by
  rcases Nat.lt_or_ge i L.length with hi1 | hi1
  · rw [List.getElem?_append_left hi1] at hi
    rcases Nat.lt_or_ge j L.length with hj1 | hj1
    · rw [List.getElem?_append_left hj1] at hj
      exact hL i j v v' b hi hj hne hb
    · rw [List.getElem?_append_right hj1] at hj
      intro e
      have := h1 v (List.mem_of_getElem? hi) b hb
      have := h2 v' (List.mem_of_getElem? hj) b e
      omega
  · rw [List.getElem?_append_right hi1] at hi
    rcases Nat.lt_or_ge j L.length with hj1 | hj1
    · rw [List.getElem?_append_left hj1] at hj
      intro e
      have := h2 v (List.mem_of_getElem? hi) b hb
      have := h1 v' (List.mem_of_getElem? hj) b e
      omega
    · rw [List.getElem?_append_right hj1] at hj
      exact hM _ _ v v' b hi hj (by omega) hb
theorem DistV_one (v : Value) : DistV [v] := fun i j x y b hi hj hne _ => by
  have h1 := (List.getElem?_eq_some_iff.1 hi).1
  have h2 := (List.getElem?_eq_some_iff.1 hj).1
  simp only [List.length_cons, List.length_nil] at h1 h2
  omega
theorem blk_apart {W : World} {vs : List Value} {e s g t : Nat} {cs : Array Value} (h : ∀ v ∈ vs, ∃ B n L, W.ownsRow B e s v n L) (hb : Blk W g t cs) (hne : e ≠ t) : ¬ OwnS vs g := fun ⟨j, v, hv, hvb⟩ => by
  obtain ⟨B, n, L, hL⟩ := h v (List.mem_of_getElem? hv)
  exact hne (own_type_blk hL hvb hb)
theorem own_apart {W : World} {vs : List Value} {e s B2 e2 s2 n2 : Nat} {v2 : Value} {L2 : List Value} (h : ∀ v ∈ vs, ∃ B n L, W.ownsRow B e s v n L) (ho : W.ownsRow B2 e2 s2 v2 n2 L2) (hne : e2 ≠ e) : ∀ b, v2.ownBlock = some b → ¬ OwnS vs b := fun b hb ⟨j, v, hv, hvb⟩ => by
  obtain ⟨B, n, L, hL⟩ := h v (List.mem_of_getElem? hv)
  exact hne (own_types ho hL hb hvb)
theorem own_low {W : World} {vs : List Value} {e s z : Nat} (h : ∀ v ∈ vs, ∃ n L, W.ownsRow z e s v n L) : ∀ b, OwnS vs b → z ≤ b := fun b ⟨j, v, hv, hvb⟩ => by
  obtain ⟨n, L, hL⟩ := h v (List.mem_of_getElem? hv)
  exact (hL.lt b hvb).1
set_option maxRecDepth 100000 in
set_option maxHeartbeats 8000000 in
theorem gramTells_walk (w : World) (B : Nat) (A : Option Addr) (n c : Nat) (b : List UInt8) (hb : BytesAt w B A n b) (hB : B ≤ w.heap.size) (hnc : n ≤ c) (hcm : c ≤ maxLen) (hnm : n ≤ 140737488351232) (i : Int) (hi : i ≤ 9223372036854775807) (hi0 : -9223372036854775808 ≤ i) (s : ByteArray) (hs : s.size ≤ 281474976710656) :
    Calls Tryz.prog 4 #[.slice A n c, .int .i64 i, .string s] w fun e w' => e = .returned (.bool true) ∧ Grow w w' := by
  have Haw := Lib.hid (fun W => awake07_any W)
  by_cases hlong : n + s.size ≤ 2000
  · have d1 : decide (2000 < (n : Int) + (s.size : Int)) = false := decide_eq_false (by omega)
    have Hlent := Lib.hid (LentBytes_any w B A n c b hb hB (by omega))
    have Hbl := Lib.hid hb.len
    have Hb := Lib.hid hb
    have Hat := Lib.hid (fun (W : World) (h : Grow w W) => rgAt_any W B A n c b i (hb.below (Below.mono h hB)) hnc (by omega) hi hi0)
    have Hpl := Lib.hid (fun (W : World) (h : Grow w W) => rgPlaces_any W B A n c b (hb.below (Below.mono h hB)) (Nat.le_trans hB h.size) hnc (by omega))
    have Hgr := Lib.hid (fun (W : World) (h : Grow w W) => rgGrams_any W B A n c b (hb.below (Below.mono h hB)) (Nat.le_trans hB h.size) hnc (by omega))
    have Hru := Lib.hid (fun (W : World) => rgRun_any W s (by omega))
    have Hgu := Lib.hid (fun (W : World) => gRun_any W s (by omega))
    have Hkb := Lib.hid (fun (W : World) (h : Grow w W) (hl : LentAt W w.heap.size b) => KeptBytes_yes W B w.heap.size A n c b hl (hb.below (Below.mono h hB)) (by omega))
    have Hi := Lib.hid (And.intro hi hi0)
    have hn2 : n ≤ 2000 := by omega
    have hs2 : s.size ≤ 2000 := by omega
    obtain ⟨x, o, hx⟩ := atV_is (grams b) i
    have Hx := Lib.hid hx
    have hgl : (grams b).length ≤ 2000 := by
      have h1 := grams_len b
      have h2 := hb.len
      omega
    have HQl := Lib.hid (show (sortG (firsts [] (grams b))).length ≤ 2000 by
      rw [← insAllG_eq]
      exact Nat.le_trans (insAllG_len _) hgl)
    have HQn := Lib.hid (show (sortG (firsts [] (grams b))).Nodup by
      rw [← insAllG_eq]
      exact up_nodup (insAllG_up _))
    obtain ⟨f, hf⟩ : ∃ f : Gr → List Nat, f = fun g => posOf (grams b) g (grams b).length := ⟨_, rfl⟩
    have Hfl := Lib.hid (show ∀ g, (f g).length ≤ 2000 from fun g => by
      rw [hf]
      exact Nat.le_trans (posOf_len _ _ _) hgl)
    have Hpo := Lib.hid (show ∀ (W : World) (cc : Nat), BytesAt W W.heap.size (some ⟨w.heap.size, 0, none⟩) n b → n ≤ cc → cc ≤ maxLen → Calls Tryz.prog 9 #[.slice (some ⟨w.heap.size, 0, none⟩) n cc] W fun e w' => ∃ u F, e = .returned u ∧ Grow W w' ∧ RP w' W.heap.size u (sortG (firsts [] (grams b))) f F from fun W cc h h1 h2 => by
      rw [hf]
      exact (posts_any sortsG W W.heap.size _ n cc b h (Nat.le_refl _) h1 h2 (by omega)).mono fun e w' h => h.rp)
    have Hgg := Lib.hid (show ∀ (W : World) (cc : Nat), BytesAt W W.heap.size (some ⟨w.heap.size, 0, none⟩) n b → n ≤ cc → cc ≤ maxLen → Calls Tryz.prog 10 #[.slice (some ⟨w.heap.size, 0, none⟩) n cc] W fun e w' => ∃ v, e = .returned v ∧ Grow W w' ∧ w'.ownsRow W.heap.size 9 1 v (sortG (firsts [] (grams b))).length (grT (sortG (firsts [] (grams b)))) from fun W cc h h1 h2 => grams_any sortsG W W.heap.size _ n cc b h (Nat.le_refl _) h1 h2 (by omega))
    have Hpr := Lib.hid (show ∀ (W : World), Grow w W → Calls Tryz.prog 13 #[.slice A n c] W fun e w' => ∃ u F, e = .returned u ∧ Grow W w' ∧ RP w' W.heap.size u (sortG (firsts [] (grams b))) f F from fun W h => by
      rw [hf]
      exact Hpl.out W h)
    unfold TextsTo at Hgr Hru Hgu
    obtain ⟨Q, hQ⟩ : ∃ Q, Q = sortG (firsts [] (grams b)) := ⟨_, rfl⟩
    rw [← hQ] at HQl HQn Hpo Hgg Hpr Hgr
    obtain ⟨gr, hgr⟩ : ∃ gr, gr = grams s.data.toList := ⟨_, rfl⟩
    have Hgrl := Lib.hid (show gr.length ≤ 2000 by
      have h1 := grams_len s.data.toList
      have h2 : s.data.toList.length = s.size := Array.length_toList
      rw [hgr]
      omega)
    rw [← hgr] at Hru Hgu
    obtain ⟨m, hm⟩ : ∃ m, m = Q.length := ⟨_, rfl⟩
    obtain ⟨r, hr⟩ : ∃ r, r = gr.length := ⟨_, rfl⟩
    rw [← hm] at HQl Hgg Hgr
    rw [← hr] at Hgrl Hru Hgu
    have Hm := Lib.hid hm
    have Hr := Lib.hid hr
    have hml : m ≤ 2000 := HQl.out
    have hrl : r ≤ 2000 := Hgrl.out
    clear hb hB hnc hcm hlong hi hi0 hx hgl hf Hpl hQ hgr hm hr
    go_enter Tryz.func4, Tryz.ntmps4
    go_wp2_with fail
    refine Hlent.out.mono ?_
    rintro e w1 ⟨rfl, hl1, hg1⟩
    have Hl1 := Lib.hid hl1
    have Hg1 := Lib.hid (show Grow w w1 from hg1)
    have Hby := Lib.hid (show ∀ W, Grow w1 W → BytesAt W W.heap.size (some ⟨w.heap.size, 0, none⟩) n b from fun W h => by
      have h2 := (hl1.below h hl1.lt).bytes (B := W.heap.size) (Nat.lt_of_lt_of_le hl1.lt h.size)
      rw [Hbl.out] at h2
      exact h2)
    clear hl1 hg1
    go_wp2_with fail
    refine (at_any w1 w1.heap.size (some ⟨w.heap.size, 0, none⟩) n (n + 12) b i (Hby.out _ (Grow.refl _)) (by omega) (by omega) Hi.out.1 Hi.out.2).mono ?_
    rintro e w1' ⟨rfl, rfl⟩
    rw [Hx.out]
    go_wp2_with fail
    refine (Hat.out w1' Hg1.out).mono ?_
    rintro e w1'' ⟨rfl, rfl⟩
    rw [Hx.out]
    have hsx := str_eq x
    go_wp2_with fail
    refine (Hpo.out w1'' (n + 12) (Hby.out _ (Grow.refl _)) (by omega) (by unfold maxLen; omega)).mono ?_
    rintro e w2 ⟨u2, F2, rfl, hg2, hR2⟩
    obtain ⟨A2, c2, rfl, -, -, -⟩ := own_reads hR2.row
    rw [← Hm.out] at hR2 ⊢
    have Hg2 := Lib.hid hg2
    have HR2 := Lib.hid hR2
    clear hg2 hR2
    go_wp2_with fail
    refine (Hpo.out w2 (n + 12) (Hby.out _ Hg2.out) (by omega) (by unfold maxLen; omega)).mono ?_
    rintro e w3 ⟨u3, F3, rfl, hg3, hR3⟩
    obtain ⟨A3, c3, rfl, -, -, -⟩ := own_reads hR3.row
    rw [← Hm.out] at hR3 ⊢
    have Hg3 := Lib.hid (Hg2.out.trans hg3)
    have Hg23 := Lib.hid hg3
    have HR3 := Lib.hid hR3
    clear hg3 hR3
    go_wp2_with fail
    refine (Hgg.out w3 (n + 12) (Hby.out _ Hg3.out) (by omega) (by unfold maxLen; omega)).mono ?_
    rintro e w4 ⟨v4, rfl, hg4, ho4⟩
    obtain ⟨A4, c4, rfl, hm4, -⟩ := own_texts ho4
    have Hg4 := Lib.hid (Hg3.out.trans hg4)
    have Hg34 := Lib.hid hg4
    have Ho4 := Lib.hid ho4
    clear hg4 ho4
    go_wp2_with fail
    refine (Hgg.out w4 (n + 12) (Hby.out _ Hg4.out) (by omega) (by unfold maxLen; omega)).mono ?_
    rintro e w5 ⟨v5, rfl, hg5, ho5⟩
    obtain ⟨A5, c5, rfl, -, -⟩ := own_texts ho5
    have Hg5 := Lib.hid (Hg4.out.trans hg5)
    have Hg45 := Lib.hid hg5
    have Ho5 := Lib.hid ho5
    clear hg5 ho5
    go_wp2_with fail
    refine (Hgu.out w5).mono ?_
    rintro e w6 ⟨v6, rfl, hg6, ho6⟩
    obtain ⟨A6, c6, rfl, hm6, -⟩ := own_texts ho6
    have Hg6 := Lib.hid (Hg5.out.trans hg6)
    have Hg56 := Lib.hid hg6
    have Ho6 := Lib.hid ho6
    clear hg6 ho6
    go_wp2_with fail
    refine (Hpr.out w6 (Hg1.out.trans Hg6.out)).mono ?_
    rintro e w7 ⟨u7, F7, rfl, hg7, hR7⟩
    obtain ⟨A7, c7, rfl, -, -, -⟩ := own_reads hR7.row
    rw [← Hm.out] at hR7 ⊢
    have Hg7 := Lib.hid (Hg6.out.trans hg7)
    have Hg67 := Lib.hid hg7
    have hg27 : Grow w2 w7 := Hg23.out.trans (Hg34.out.trans (Hg45.out.trans (Hg56.out.trans hg7)))
    have hR27 := HR2.out.grow hg27
    have hrd2 := own_at hR27.row
    have hrd7 := own_at hR7.row
    rw [← Hm.out] at hrd2 hrd7
    have Hcall := Lib.hid (SamePostings_true w7 A2 A7 m c2 c7 Q F2 F7 f Hm.out.symm hrd2 hrd7 (hR27.fat Hfl.out (Nat.le_refl _)) (hR7.fat Hfl.out (Nat.le_refl _)) (by unfold maxLen; omega))
    clear hg7 hR7 hg27 hR27 hrd2 hrd7
    go_wp2_with fail
    refine Hcall.out.mono ?_
    rintro e w8 ⟨rfl, hg8⟩
    have Hg8 := Lib.hid (Hg7.out.trans hg8)
    have Hg68 := Lib.hid (Hg67.out.trans hg8)
    clear hg8 Hcall
    go_wp2_with fail
    refine (Hgr.out w8 (Hg1.out.trans Hg8.out)).mono ?_
    rintro e w9 ⟨v9, rfl, hg9, ho9⟩
    obtain ⟨A9, c9, rfl, -, ht9⟩ := own_texts ho9
    have Hg9 := Lib.hid (Hg8.out.trans hg9)
    have Hg89 := Lib.hid hg9
    have htx : ∀ W, Grow w4 W → TextsAt W W.heap.size A4 m (Q.map grS) := fun W h => by
      unfold TextsAt
      rw [List.map_map]
      exact own_at (own_below Ho4.out h)
    have Hcall := Lib.hid (SameTexts_any w9 w9.heap.size w9.heap.size A4 A9 m c4 m c9 (Q.map grS) (Q.map grS) (htx w9 (Hg45.out.trans (Hg56.out.trans (Hg68.out.trans hg9)))) ht9 (by unfold maxLen; omega) (by unfold maxLen; omega))
    clear hg9 ho9 ht9 htx
    go_wp2_with fail
    refine Hcall.out.mono ?_
    rintro e w10 ⟨bb, rfl, hbb, q10, hq10⟩
    obtain rfl : bb = true := hbb.2 (by first | rfl | trivial)
    have Hg10 := Lib.hid (show Grow w1'' w10 from Hg9.out.trans (by rw [← hq10]; exact ⟨rfl, rfl, rfl, Nat.le_refl _, fun _ _ => rfl⟩))
    have Hg910 := Lib.hid (show Grow w9 w10 by rw [← hq10]; exact ⟨rfl, rfl, rfl, Nat.le_refl _, fun _ _ => rfl⟩)
    clear hbb hq10 Hcall
    go_wp2_with fail
    refine (Hru.out w10).mono ?_
    rintro e w11 ⟨v11, rfl, hg11, ho11⟩
    obtain ⟨A11, c11, rfl, -, ht11⟩ := own_texts ho11
    have Hg11 := Lib.hid (Hg10.out.trans hg11)
    have htx : TextsAt w11 w11.heap.size A6 r (gr.map grS) := by
      unfold TextsAt
      rw [List.map_map]
      exact own_at (own_below Ho6.out (Hg68.out.trans (Hg89.out.trans (Hg910.out.trans hg11))))
    have Hcall := Lib.hid (SameTexts_any w11 w11.heap.size w11.heap.size A6 A11 r c6 r c11 (gr.map grS) (gr.map grS) htx ht11 (by unfold maxLen; omega) (by unfold maxLen; omega))
    have Hg611 := Lib.hid (show Grow w6 w11 from Hg68.out.trans (Hg89.out.trans (Hg910.out.trans hg11)))
    clear hg11 ho11 ht11 htx
    go_wp2_with fail
    refine Hcall.out.mono ?_
    rintro e w12 ⟨bb, rfl, hbb, q12, hq12⟩
    obtain rfl : bb = true := hbb.2 (by first | rfl | trivial)
    have Hg612 := Lib.hid (show Grow w6 w12 from Hg611.out.trans (by rw [← hq12]; exact ⟨rfl, rfl, rfl, Nat.le_refl _, fun _ _ => rfl⟩))
    have Hg12 := Lib.hid (show Grow w1'' w12 from Hg6.out.trans Hg612.out)
    clear hbb hq12 Hcall Hg611 Hg11 Hg910 Hg10 Hg9 Hg8 Hg7 Hg89 Hg68
    go_wp2_with fail
    refine (Hkb.out w12 (Hg1.out.trans Hg12.out) (Hl1.out.below Hg12.out Hl1.out.lt)).mono ?_
    rintro e w13 ⟨rfl, q13, hq13⟩
    have Hg613 := Lib.hid (show Grow w6 w13 from Hg612.out.trans (by rw [← hq13]; exact ⟨rfl, rfl, rfl, Nat.le_refl _, fun _ _ => rfl⟩))
    have Hg13 := Lib.hid (show Grow w1'' w13 from Hg6.out.trans Hg613.out)
    clear hq13 Hg612 Hg12
    go_wp2_with fail
    have hg14 : Grow w13 (w13.alloc (.cells #[.slice A2 m c2, .slice A3 m c3] 28)) := Grow.alloc _ _
    have hrd14 : ReadsAt (w13.alloc (.cells #[.slice A2 m c2, .slice A3 m c3] 28)) (w13.heap.size + 1) 1 (some ⟨w13.heap.size, 0, none⟩) 2 [.slice A2 m c2, .slice A3 m c3] := ReadsAt.made w13 28 [.slice A2 m c2, .slice A3 m c3]
    have hbw14 : w13.heap.size + 1 ≤ (w13.alloc (.cells #[.slice A2 m c2, .slice A3 m c3] 28)).heap.size := by simp
    obtain ⟨w14, hw14⟩ : ∃ w14, w13.alloc (.cells #[.slice A2 m c2, .slice A3 m c3] 28) = w14 := ⟨_, rfl⟩
    rw [hw14] at hg14 hrd14 hbw14 ⊢
    clear hw14
    obtain ⟨ps, hps⟩ : ∃ ps : List PQ, ps = [⟨.slice A2 m c2, Q, f, F2⟩, ⟨.slice A3 m c3, Q, f, F3⟩] := ⟨_, rfl⟩
    have hpv : ps.map (·.v) = [.slice A2 m c2] ++ [.slice A3 m c3] := by rw [hps]; rfl
    have hpF : (ps.flatMap fun p => p.Q.map p.F) = Q.map F2 ++ Q.map F3 := by rw [hps]; simp
    have hpl : lenPs ps = (Q.map fun g => (f g).length) ++ Q.map fun g => (f g).length := by rw [hps]; simp [lenPs]
    have hg314 : Grow w3 w14 := Hg34.out.trans (Hg45.out.trans (Hg56.out.trans (Hg613.out.trans hg14)))
    have hV : ∀ p ∈ ps, RP w14 w1''.heap.size p.v p.Q p.f p.F := fun p hp => by
      rw [hps] at hp
      simp only [List.mem_cons, List.not_mem_nil, or_false] at hp
      rcases hp with rfl | rfl
      · exact HR2.out.grow (Hg23.out.trans hg314)
      · exact (HR3.out.base Hg2.out.size).grow hg314
    have hd1 : DistV (ps.map (·.v)) := by
      rw [hpv]
      refine DistV_app w2.heap.size (DistV_one _) (DistV_one _) (fun v hv b hb => ?_) fun v hv b hb => ?_
      · obtain rfl : v = .slice A2 m c2 := by simpa using hv
        exact (HR2.out.row.lt b hb).2
      · obtain rfl : v = .slice A3 m c3 := by simpa using hv
        exact (HR3.out.row.lt b hb).1
    have hd2 : DistV (ps.flatMap fun p => p.Q.map p.F) := by
      rw [hpF]
      refine DistV_app w2.heap.size (DistV_map HQn.out HR2.out.apart) (DistV_map HQn.out HR3.out.apart) (fun v hv b hb => ?_) fun v hv b hb => ?_
      · obtain ⟨g, hg, rfl⟩ := List.mem_map.1 hv
        exact ((HR2.out.own g hg).lt b hb).2
      · obtain ⟨g, hg, rfl⟩ := List.mem_map.1 hv
        exact ((HR3.out.own g hg).lt b hb).1
    have hrd14b : ReadsAt w14 (w13.heap.size + 1) 1 (some ⟨w13.heap.size, 0, none⟩) 2 (ps.map (·.v)) := by rw [hpv]; exact hrd14
    have hz1314 : w1''.heap.size ≤ w14.heap.size := Nat.le_trans Hg13.out.size hg14.size
    have hcall := ApartPostings_any w14 w1''.heap.size (w13.heap.size + 1) (some ⟨w13.heap.size, 0, none⟩) 2 2 ps hrd14b hbw14 hV hd1 hd2 hz1314 (by omega) (by
      rw [hpF, List.length_append, List.length_map, List.length_map, ← Hm.out]
      omega) (fun k hk => by
      rw [hpl] at hk
      have : ∃ g, (f g).length = k := by
        rcases List.mem_append.1 hk with h | h <;> obtain ⟨g, -, h2⟩ := List.mem_map.1 h <;> exact ⟨g, h2⟩
      obtain ⟨g, rfl⟩ := this
      have := Hfl.out g
      omega)
    have hoP : ∀ v ∈ ps.map (·.v), ∃ B n L, w14.ownsRow B 42 2 v n L := fun v hv => by
      obtain ⟨p, hp, rfl⟩ := List.mem_map.1 hv
      exact ⟨_, _, _, (hV p hp).row⟩
    have hoL : ∀ v ∈ ps.flatMap fun p => p.Q.map p.F, ∃ B n L, w14.ownsRow B 44 2 v n L := fun v hv => by
      obtain ⟨p, hp, h⟩ := List.mem_flatMap.1 hv
      obtain ⟨g, hg, rfl⟩ := List.mem_map.1 h
      exact ⟨_, _, _, (hV p hp).own g hg⟩
    have Hlow := Lib.hid (show ∀ j, (OwnS (ps.flatMap fun p => p.Q.map p.F) j ∨ OwnS (ps.map (·.v)) j) → w1''.heap.size ≤ j from fun j hj => by
      rcases hj with h | h
      · refine own_low (W := w14) (e := 44) (s := 2) (fun v hv => ?_) j h
        obtain ⟨p, hp, h⟩ := List.mem_flatMap.1 hv
        obtain ⟨g, hg, rfl⟩ := List.mem_map.1 h
        exact ⟨_, _, (hV p hp).own g hg⟩
      · refine own_low (W := w14) (e := 42) (s := 2) (fun v hv => ?_) j h
        obtain ⟨p, hp, rfl⟩ := List.mem_map.1 hv
        exact ⟨_, _, (hV p hp).row⟩)
    have Htx := Lib.hid (show ∀ (B2 n2 : Nat) (v2 : Value) (L2 : List Value), w14.ownsRow B2 9 1 v2 n2 L2 → ∀ b, v2.ownBlock = some b → ¬ (OwnS (ps.flatMap fun p => p.Q.map p.F) b ∨ OwnS (ps.map (·.v)) b) from fun B2 n2 v2 L2 ho b hb h => by
      rcases h with h | h
      · exact own_apart hoL ho (by decide) b hb h
      · exact own_apart hoP ho (by decide) b hb h)
    have Ho4b := Lib.hid (own_below Ho4.out (Hg45.out.trans (Hg56.out.trans (Hg613.out.trans hg14))))
    have Ho5b := Lib.hid (own_below Ho5.out (Hg56.out.trans (Hg613.out.trans hg14)))
    have Ho6b := Lib.hid (own_below Ho6.out (Hg613.out.trans hg14))
    have Hg14 := Lib.hid (Hg13.out.trans hg14)
    have Hz1314 := Lib.hid (show w13.heap.size ≤ w14.heap.size from hg14.size)
    have Hcall := Lib.hid hcall
    clear hcall hoP hoL hd1 hd2 hV hrd14 hrd14b hbw14 hg314 hg14 hpv hpF hpl hps hz1314
    refine Hcall.out.mono ?_
    rintro e w15 ⟨rfl, hk15⟩
    have Hg15 := Lib.hid (show Grow w1'' w15 from Below.trans Hg14.out (hk15.below Hlow.out Hg14.out.size))
    have Hg1315 := Lib.hid (show w13.heap.size ≤ w15.heap.size from Nat.le_trans Hz1314.out hk15.size)
    have Ho4c := Lib.hid (hk15.own Ho4b.out (Htx.out _ _ _ _ Ho4b.out))
    have Ho5c := Lib.hid (hk15.own Ho5b.out (Htx.out _ _ _ _ Ho5b.out))
    have Ho6c := Lib.hid (hk15.own Ho6b.out (Htx.out _ _ _ _ Ho6b.out))
    clear hk15 Hcall Hlow Htx Ho4b Ho5b Ho6b
    go_wp2_with fail
    have hg16 : Grow w15 (w15.alloc (.cells #[.slice A4 m c4, .slice A5 m c5, .slice A6 r c6] 30)) := Grow.alloc _ _
    have hrd16 : ReadsAt (w15.alloc (.cells #[.slice A4 m c4, .slice A5 m c5, .slice A6 r c6] 30)) (w15.heap.size + 1) 1 (some ⟨w15.heap.size, 0, none⟩) 3 [.slice A4 m c4, .slice A5 m c5, .slice A6 r c6] := ReadsAt.made w15 30 [.slice A4 m c4, .slice A5 m c5, .slice A6 r c6]
    have hbw16 : w15.heap.size + 1 ≤ (w15.alloc (.cells #[.slice A4 m c4, .slice A5 m c5, .slice A6 r c6] 30)).heap.size := by simp
    obtain ⟨w16, hw16⟩ : ∃ w16, w15.alloc (.cells #[.slice A4 m c4, .slice A5 m c5, .slice A6 r c6] 30) = w16 := ⟨_, rfl⟩
    rw [hw16] at hg16 hrd16 hbw16 ⊢
    clear hw16
    have hgQ : (Q.map grS).map Value.string = grT Q := by rw [List.map_map]; rfl
    have hgR : (gr.map grS).map Value.string = grT gr := by rw [List.map_map]; rfl
    have hz36 : w3.heap.size ≤ w4.heap.size ∧ w3.heap.size ≤ w5.heap.size := ⟨Hg34.out.size, Nat.le_trans Hg34.out.size Hg45.out.size⟩
    obtain ⟨ts, hts⟩ : ∃ ts : List TQ, ts = [(.slice A4 m c4, Q.map grS), (.slice A5 m c5, Q.map grS), (.slice A6 r c6, gr.map grS)] := ⟨_, rfl⟩
    have htv : ts.map (·.1) = ([.slice A4 m c4] ++ [.slice A5 m c5]) ++ [.slice A6 r c6] := by rw [hts]; rfl
    have hV : ∀ p ∈ ts, w16.ownsRow w3.heap.size 9 1 p.1 p.2.length (p.2.map Value.string) := fun p hp => by
      rw [hts] at hp
      simp only [List.mem_cons, List.not_mem_nil, or_false] at hp
      rcases hp with rfl | rfl | rfl
      · show w16.ownsRow _ _ _ (.slice A4 m c4) (Q.map grS).length ((Q.map grS).map Value.string)
        rw [hgQ, List.length_map, ← Hm.out]
        exact own_below Ho4c.out hg16
      · show w16.ownsRow _ _ _ (.slice A5 m c5) (Q.map grS).length ((Q.map grS).map Value.string)
        rw [hgQ, List.length_map, ← Hm.out]
        exact own_base (own_below Ho5c.out hg16) hz36.1
      · show w16.ownsRow _ _ _ (.slice A6 r c6) (gr.map grS).length ((gr.map grS).map Value.string)
        rw [hgR, List.length_map, ← Hr.out]
        exact own_base (own_below Ho6c.out hg16) hz36.2
    have hd1 : DistV (ts.map (·.1)) := by
      rw [htv]
      refine DistV_app w5.heap.size (DistV_app w4.heap.size (DistV_one _) (DistV_one _) (fun v hv b hb => ?_) fun v hv b hb => ?_) (DistV_one _) (fun v hv b hb => ?_) fun v hv b hb => ?_
      · obtain rfl : v = .slice A4 m c4 := by simpa using hv
        exact (Ho4.out.lt b hb).2
      · obtain rfl : v = .slice A5 m c5 := by simpa using hv
        exact (Ho5.out.lt b hb).1
      · have hv : v = .slice A4 m c4 ∨ v = .slice A5 m c5 := by simpa using hv
        rcases hv with rfl | rfl
        · exact Nat.lt_of_lt_of_le (Ho4.out.lt b hb).2 Hg45.out.size
        · exact (Ho5.out.lt b hb).2
      · obtain rfl : v = .slice A6 r c6 := by simpa using hv
        exact (Ho6.out.lt b hb).1
    have hz316 : w3.heap.size ≤ w16.heap.size := Nat.le_trans (Nat.le_trans Hg34.out.size (Nat.le_trans Hg45.out.size (Nat.le_trans Hg56.out.size (Nat.le_trans Hg613.out.size (Hg1315.out))))) hg16.size
    have hrd16b : ReadsAt w16 (w15.heap.size + 1) 1 (some ⟨w15.heap.size, 0, none⟩) 3 (ts.map (·.1)) := by rw [htv]; exact hrd16
    have hcall := ApartTexts_any w16 w3.heap.size (w15.heap.size + 1) (some ⟨w15.heap.size, 0, none⟩) 3 3 ts hrd16b hbw16 hV hd1 hz316 (by omega) (fun p hp => by
      rw [hts] at hp
      simp only [List.mem_cons, List.not_mem_nil, or_false] at hp
      rcases hp with rfl | rfl | rfl
      · show (Q.map grS).length ≤ _
        rw [List.length_map, ← Hm.out]
        omega
      · show (Q.map grS).length ≤ _
        rw [List.length_map, ← Hm.out]
        omega
      · show (gr.map grS).length ≤ _
        rw [List.length_map, ← Hr.out]
        omega)
    have Hlow := Lib.hid (show ∀ j, OwnS (ts.map (·.1)) j → w1''.heap.size ≤ j from fun j hj => Nat.le_trans Hg3.out.size (own_low (W := w16) (e := 9) (s := 1) (fun v hv => by
      obtain ⟨p, hp, rfl⟩ := List.mem_map.1 hv
      exact ⟨_, _, hV p hp⟩) j hj))
    have Hg16 := Lib.hid (Hg15.out.trans hg16)
    have Hcall := Lib.hid hcall
    clear hcall hd1 hV hrd16 hrd16b hbw16 hg16 htv hts hgQ hgR hz36 hz316
    refine Hcall.out.mono ?_
    rintro e w17 ⟨rfl, hk17⟩
    have Hg17 := Lib.hid (show Grow w1'' w17 from Below.trans Hg16.out (hk17.below Hlow.out Hg16.out.size))
    clear hk17 Hcall Hlow
    go_wp2_with fail
    refine (Hkb.out w17 (Hg1.out.trans Hg17.out) (Hl1.out.below Hg17.out Hl1.out.lt)).mono ?_
    rintro e w18 ⟨rfl, q18, hq18⟩
    have Hg18 := Lib.hid (show Grow w w18 from Hg1.out.trans (Hg17.out.trans (by rw [← hq18]; exact ⟨rfl, rfl, rfl, Nat.le_refl _, fun _ _ => rfl⟩)))
    clear hq18
    go_wp2_with fail
    refine (Haw.out w18).mono ?_
    rintro e w19 ⟨rfl, hg19⟩
    have Hg19 := Lib.hid (Hg18.out.trans hg19)
    clear hg19
    go_wp2_with fail
    go_ret
    exact ⟨rfl, Hg19.out⟩
  · have d1 : decide (2000 < (n : Int) + (s.size : Int)) = true := decide_eq_true (by omega)
    clear hb hB hnc hcm hlong
    go_enter Tryz.func4, Tryz.ntmps4
    go_wp2_with fail
    refine (Haw.out w).mono ?_
    rintro e w19 ⟨rfl, hg19⟩
    go_wp2_with fail
    go_ret
    exact ⟨rfl, hg19⟩
end Go.Proofs.YtfjnjlcmikhehaaGreat
