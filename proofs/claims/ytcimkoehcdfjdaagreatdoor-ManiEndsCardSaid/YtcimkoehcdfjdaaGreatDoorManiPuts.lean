/-
  The walk of mudlarklaw25.ManiPuts: whether a manifest is right, its bytes, or the error, are what the document tells; it stays, what is told lies apart.
-/
import Derived.Deep.DeepCutAuto
import Derived.Deep.CutRange
import Derived.Test.YtcimkoehcdfjdaaGreatDoorManiRef
import Derived.Test.YtcimkoehcdfjdaaGreatDoorManiLent
import Derived.Test.YtcimkoehcdfjdaaGreatDoorManiCount
import Derived.Test.YtcimkoehcdfjdaaGreatDoorApartAll
import Derived.Test.YtcimkoehcdfjdaaGreatDoorManiUse
namespace Go.Proofs.YtcimkoehcdfjdaaGreatDoor
open Go.RowKit WireM
set_option linter.unusedVariables false
attribute [local go_sem] Oper.semAt_some

def mpL (m : ManiM) : List UInt8 := if maniRight m = true then mfileB m else []
def mpE (m : ManiM) : Int := if maniRight m = true then 0 else 2
theorem mpL_len (m : ManiM) : (mpL m).length ≤ 1000100 := by
 unfold mpL
 split
 ·rename_i h; exact mfile_len h
 ·simp
theorem MPutTo.all {w : World} {m : ManiM} {e : Ending} {w' : World} (h : MPutTo w m e w') : ∃ r, e = .returned (.tuple #[r, .int .i64 (mpE m)]) ∧ w'.ownsRow w.heap.size 5 1 r (mpL m).length ((mpL m).map b8) ∧ Grow w w' := by
 obtain ⟨hG, h⟩ := h
 unfold mpL mpE
 rcases h with ⟨hr, r, rfl, ho⟩ | ⟨hr, rfl⟩
 ·rw [if_pos hr, if_pos hr]
  exact ⟨r, rfl, ho, hG⟩
 ·rw [if_neg (by rw [hr]; simp), if_neg (by rw [hr]; simp)]
  exact ⟨_, rfl, World.ownsRow_nil _ _ _ _, hG⟩
theorem own_lowerM {w : World} {base b2 e size n : Nat} {v : Value} {xs : List Value} (h : w.ownsRow base e size v n xs) (hb : b2 ≤ base) : w.ownsRow b2 e size v n xs :=
 ⟨h.1, h.2.imp id fun ⟨g, cap, cur, h1, h2, h3⟩ => ⟨g, cap, cur, h1, Nat.le_trans hb h2, h3⟩⟩
theorem LSAt.more {w : World} {B B' o oo : Nat} {ps : List (Nat × LS)} (h : LSAt w B o oo ps) (hB : B ≤ B') : LSAt w B' o oo ps :=
 ⟨Nat.lt_of_lt_of_le h.lt hB, fun j p hp => ⟨(h.at_ j p hp).1, fun hm => ⟨Nat.lt_of_lt_of_le ((h.at_ j p hp).2 hm).1 hB, ((h.at_ j p hp).2 hm).2⟩⟩⟩
theorem mani_small {w : World} {B : Nat} {v : Value} {m : ManiM} (h : ManiAt w B v m) : ∀ t ∈ m.shards, Wide64 t.num ∧ Wide64 t.size ∧ ∀ x ∈ t.dead, Wide64 x := fun t ht => by
 obtain ⟨⟨A', n', c', e, -, -, -, hT⟩, -⟩ := h
 obtain ⟨j, hj, e⟩ := List.getElem_of_mem ht
 obtain ⟨b, off, A1, n1, c1, -, -, -, -, -, -, -, -, -, -, h⟩ := hT.at_ (List.getElem?_eq_some_iff.2 ⟨hj, e⟩)
 exact h
def mpVal (r : Bool) : Nat → Value
 | 1 => .bool r
 | 2 => .bool r
 | _ => .bool true
def mpW (W0 : World) (r : Bool) (vals : List Value) (w : World) : Prop := (∀ (j : Nat) (v : Value), vals[j]? = some v → v = mpVal r j) ∧ (vals.length ≤ 4 → Grow W0 w)
theorem mpW.grow {W0 : World} {r : Bool} : ∀ (vals : List Value) (w w' : World), Grow w w' → mpW W0 r vals w → mpW W0 r vals w' := fun _ _ _ hg h => ⟨h.1, fun hl => (h.2 hl).trans hg⟩
theorem mpW.nil (W0 : World) (r : Bool) : mpW W0 r [] W0 := ⟨fun j v h => by simp at h, fun _ => Grow.refl _⟩
theorem mpW.v {W0 : World} {r : Bool} {vals : List Value} {w : World} {j : Nat} {v : Value} (h : mpW W0 r vals w) (hv : vals[j]? = some v) : v = mpVal r j := h.1 j v hv
theorem mpW.snoc {W0 : World} {r : Bool} {vals : List Value} {w w' : World} {k : Nat} {v : Value} (h : mpW W0 r vals w) (hk : vals.length = k) (hv : v = mpVal r k) (hg : k < 4 → Grow w w') : mpW W0 r (vals ++ [v]) w' :=
 ⟨fun j u hu => by
  by_cases hj : j < vals.length
  ·rw [List.getElem?_append_left hj] at hu
   exact h.1 j u hu
  ·rw [List.getElem?_append_right (by omega)] at hu
   have hj0 : j - vals.length = 0 := by
    rcases Nat.lt_or_ge (j - vals.length) 1 with h | h
    ·omega
    ·rw [List.getElem?_eq_none (by simpa using h)] at hu
     cases hu
   rw [hj0] at hu
   obtain rfl : v = u := by simpa using hu
   rw [show j = k by omega]
   exact hv, fun hl => (h.2 (by rw [List.length_append] at hl; simp at hl; omega)).trans (hg (by rw [List.length_append] at hl; simp at hl; omega))⟩
def FactOn.newS {S : Nat → Prop} (B0 : Nat) (hS : ∀ k, S k → k < B0) (t : TypeId) (v1 v2 : Value) : FactOn (Keep S) :=
 ⟨fun u w => ∃ m, u = .slice (some ⟨m, 0, none⟩) 2 2 ∧ B0 ≤ m ∧ Blk w m t #[v1, v2], fun _ _ _ hk ⟨m, h1, h2, h3⟩ => ⟨m, h1, h2, hk.blk h3 (fun hs => by have := hS m hs; omega)⟩⟩
def edgeB (ops : Array Oper) (i j : Nat) : Bool := match ops[i]? with
 | some o => (o.after.toList.filter (Region.binds .any)).any fun e => e.on == j
 | none => false
def pathB (ops : Array Oper) : Nat → List Nat → Nat → Bool
 | i, [], j => edgeB ops i j
 | i, k :: r, j => edgeB ops i k && pathB ops k r j
theorem reach_edge {ops : Array Oper} {i j f : Nat} (h : edgeB ops i j = true) : j ∈ reach ops (f + 1) i ∧ ∀ x, x ∈ reach ops f j → x ∈ reach ops (f + 1) i := by
 unfold edgeB at h
 rw [reach]
 cases ho : ops[i]? with
 | none => rw [ho] at h; cases h
 | some o =>
  rw [ho] at h
  obtain ⟨e, he, hj⟩ := List.any_eq_true.1 h
  have hj2 : e.on = j := by simpa using hj
  exact ⟨List.mem_flatMap.2 ⟨e, he, by rw [hj2]; simp⟩, fun x hx => List.mem_flatMap.2 ⟨e, he, by rw [hj2]; exact List.mem_cons_of_mem _ hx⟩⟩
theorem reach_path {ops : Array Oper} {j : Nat} : ∀ (p : List Nat) (i f : Nat), pathB ops i p j = true → p.length < f → j ∈ reach ops f i
 | [], i, f + 1, h, _ => (reach_edge h).1
 | k :: r, i, f + 1, h, hf => by
  simp only [pathB, Bool.and_eq_true] at h
  exact (reach_edge h.1).2 _ (reach_path r k f h.2 (by simp only [List.length_cons] at hf; omega))
 | [], i, 0, _, hf => by simp at hf
 | _ :: _, i, 0, _, hf => by simp at hf
theorem chainOk_paths {ops : Array Oper} {ms : List Nat} (ps : List (List Nat)) (h1 : (ms.all fun i => decide (i < ops.size)) = true) (h2 : ((List.range ms.length).all fun t => decide (t = 0) || (pathB ops (ms.getD t 0) (ps.getD t []) (ms.getD (t - 1) 0) && decide ((ps.getD t []).length < ops.size))) = true) (h3 : ms.length ≤ 99) (h4 : ms.Nodup) :
  chainOk ops ms (fun _ => 99) = true := by
 unfold chainOk
 rw [Bool.and_eq_true, Bool.and_eq_true, Bool.and_eq_true]
 refine ⟨⟨⟨h1, ?_⟩, ?_⟩, decide_eq_true h4⟩
 ·refine List.all_eq_true.2 fun t ht => ?_
  have h := List.all_eq_true.1 h2 t ht
  rw [Bool.or_eq_true] at h ⊢
  rcases h with h | h
  ·exact Or.inl h
  ·rw [Bool.and_eq_true] at h
   refine Or.inr ?_
   rw [List.contains_iff_mem]
   exact reach_path _ _ _ h.1 (of_decide_eq_true h.2)
 ·refine List.all_eq_true.2 fun i _ => ?_
  rw [Bool.or_eq_true]
  exact Or.inl (decide_eq_true h3)
set_option maxRecDepth 100000 in
set_option maxHeartbeats 8000000 in
theorem mputs_walk (w : World) (v : Value) (m : ManiM) (hM : ManiAt w w.heap.size v m) (hL : LaidOk w) :
  Calls Tryz.prog 3 #[v] w fun e w' => e = .returned (.bool true) ∧ Below w.heap.size w w' := by
 have hM0 := hM
 obtain ⟨⟨A, n, c, rfl, -, -, -, hT0⟩, -⟩ := hM
 have Hlen := Lib.hid hT0.len
 obtain ⟨W0, hW0⟩ : ∃ W0, w.alloc (.cells #[.int .i64 m.gen, .slice A n c] 24) = W0 := ⟨_, rfl⟩
 have hG0 : Grow w W0 := by rw [← hW0]; exact Grow.alloc _ _
 have hB0 : Blk W0 w.heap.size 24 #[.int .i64 m.gen, .slice A n c] := by rw [← hW0]; exact Blk.new _ _ _
 have HM0 := Lib.hid (hM0.grow (Nat.le_refl _) hG0)
 have hc0 := hB0.cell 0
 have hc1 := hB0.cell 1
 clear hM0 hT0
 go_enter Tryz.func3, Tryz.ntmps3
 go_wp2_with fail
 refine (ManifestOf_small W0 _ m HM0.out).mono ?_
 rintro e w1 ⟨N, rfl, hNl, hsm, hg1⟩
 have hB1 := Grow.blkOf hg1 hB0
 have HM1 := Lib.hid (HM0.out.grow (Nat.le_refl _) hg1)
 have HG1 := Lib.hid (hG0.trans hg1)
 clear hB0 HM0 hG0 hg1 hW0 hc0 hc1
 have hc0 := hB1.cell 0
 have hc1 := hB1.cell 1
 by_cases hbig : 3000 < N
 ·have d1 : decide ((3000 : Int) < (N : Int)) = true := decide_eq_true (by omega)
  go_wp2_with fail
  refine (awake25_any w1 (hL.grow HG1.out)).mono ?_
  rintro e w2 ⟨rfl, hg2⟩
  go_wp2
  go_ret
  exact ⟨rfl, HG1.out.trans hg2⟩
 ·have d1 : decide ((3000 : Int) < (N : Int)) = false := decide_eq_false (by omega)
  obtain ⟨hs1, hs2⟩ := hsm (by omega)
  have hn3 : n ≤ 3000 := by rw [← Hlen.out]; exact hs1
  have Htot := Lib.hid (show ∀ t ∈ m.shards, t.dead.length ≤ 1000000 from fun t ht => by have := hs2 t ht; omega)
  clear hsm hs1 hs2
  have hT1 : ShardsAt w1 w1.heap.size A n m.shards := by
   obtain ⟨⟨A', n', c', e, -, -, -, h⟩, -⟩ := HM1.out
   injection e with e
   simp only [Array.mk.injEq, List.cons.injEq, Value.slice.injEq, and_true, true_and] at e
   obtain ⟨rfl, rfl, rfl⟩ := e
   exact h
  have HT1 := Lib.hid hT1
  clear hT1
  go_wp2_with fail
  refine (LentManifest_any w1 m A n c HT1.out (by omega) Htot.out).mono ?_
  rintro e w2 ⟨o, ps, rfl, hps, hLs, hg2⟩
  have hw := mani_small HM1.out
  obtain ⟨W3, hW3⟩ : ∃ W3, w2.alloc (.cells #[.int .i64 m.gen, .slice (some ⟨o, 0, none⟩) n (n + 12)] 24) = W3 := ⟨_, rfl⟩
  have hG3 : Grow w2 W3 := by rw [← hW3]; exact Grow.alloc _ _
  have hC3 : Blk W3 w2.heap.size 24 #[.int .i64 m.gen, .slice (some ⟨o, 0, none⟩) n (n + 12)] := by rw [← hW3]; exact Blk.new _ _ _
  have hB3 := Grow.blkOf (hg2.trans hG3) hB1
  have HM3 := Lib.hid (HM1.out.grow (Nat.le_refl _) (hg2.trans hG3))
  have HL3 := Lib.hid (show LSAt W3 W3.heap.size o 0 ps from (hLs.below hG3).more hG3.size)
  have Hps := Lib.hid hps
  have HI3 := Lib.hid (show ManiAt W3 W3.heap.size (.agg #[.int .i64 m.gen, .slice (some ⟨o, 0, none⟩) n (n + 12)]) m from ⟨⟨_, n, n + 12, rfl, by omega, by unfold maxLen; omega, by omega, HL3.out.shards hps Hlen.out Htot.out hw⟩, HM1.out.gen⟩)
  have HG3 := Lib.hid (HG1.out.trans (hg2.trans hG3))
  clear hc0 hc1 hB1 HM1 HG1 hg2 hG3 hLs hps HT1
  have hc0 := hB3.cell 0
  have hc1 := hB3.cell 1
  have hn0 := hC3.cell 0
  have hn1 := hC3.cell 1
  have hzB := hB3.lt
  have hzC := hC3.lt
  go_wp2_with fail
  try rw [hW3]
  clear hW3
  refine (MPut_any W3 _ m HI3.out).mono ?_
  intro e w4 hto
  obtain ⟨r4, rfl, ho4, hg4⟩ := hto.all
  obtain ⟨A4, c4, rfl, h41, h42, h43⟩ := own_reads ho4
  obtain ⟨f, hf⟩ : ∃ f, f = (mpL m).length := ⟨_, rfl⟩
  have hfl : f ≤ 1000100 := by rw [hf]; exact mpL_len m
  rw [← hf] at ho4 h41 h43 ⊢
  have Hf := Lib.hid hf
  have Ho4 := Lib.hid ho4
  have H43 : Hid (BytesAt w4 w4.heap.size A4 f (mpL m)) := h43
  have hB4 := Grow.blkOf hg4 hB3
  have hC4 := Grow.blkOf hg4 hC3
  have Hg4 := Lib.hid hg4
  clear hc0 hc1 hn0 hn1 hto ho4 h43 hf
  have hc0 := hB4.cell 0
  have hc1 := hB4.cell 1
  go_wp2_with fail
  refine (mrPut_any w4 _ m (HM3.out.grow (Nat.le_refl _) hg4)).mono ?_
  intro e w5 hto
  obtain ⟨r5, rfl, ho5, hg5⟩ := hto.all
  rw [← Hf.out] at ho5
  obtain ⟨A5, c5, rfl, h51, h52, h53⟩ := own_reads ho5
  have H53 : Hid (BytesAt w5 w5.heap.size A5 f (mpL m)) := h53
  have hB5 := Grow.blkOf hg5 hB4
  have hC5 := Grow.blkOf hg5 hC4
  have Hg35 := Lib.hid (hg4.trans hg5)
  have Hg5 := Lib.hid hg5
  clear hc0 hc1 hto ho5 h53 hB4 hC4
  have hn0 := hC5.cell 0
  have hn1 := hC5.cell 1
  go_wp2_with fail
  refine (MPut_any w5 _ m (HI3.out.grow (Nat.le_refl _) Hg35.out)).mono ?_
  intro e w6 hto
  obtain ⟨r6, rfl, ho6, hg6⟩ := hto.all
  rw [← Hf.out] at ho6
  obtain ⟨A6, c6, rfl, h61, h62, h63⟩ := own_reads ho6
  have Ho6 := Lib.hid ho6
  have hB6 := Grow.blkOf hg6 hB5
  have hC6 := Grow.blkOf hg6 hC5
  have Hg6 := Lib.hid hg6
  have Hg46 := Lib.hid (Hg5.out.trans hg6)
  have Hg36 := Lib.hid (Hg35.out.trans hg6)
  have hz4 := Hg4.out.size
  have hz5 := Hg5.out.size
  have hz6 := hg6.size
  clear hn0 hn1 hto ho6 h63 hB5 hC5 hg4 hg5 hg6
  obtain ⟨r, hr⟩ : ∃ r, r = maniRight m := ⟨_, rfl⟩
  have Hr := Lib.hid hr
  clear hr
  obtain ⟨S, hS⟩ : ∃ S, S = OwnS [Value.slice A4 f c4, Value.slice A6 f c6] := ⟨_, rfl⟩
  have hSlt : ∀ k, S k → k < w6.heap.size := fun k hk => by
   rw [hS] at hk
   obtain ⟨j, v, hj, hb⟩ := hk
   match j, hj with
   | 0, hj => cases hj; have := (Ho4.out.lt k hb).2; omega
   | 1, hj => cases hj; exact (Ho6.out.lt k hb).2
  have hSge : ∀ k, S k → W3.heap.size ≤ k := fun k hk => by
   rw [hS] at hk
   obtain ⟨j, v, hj, hb⟩ := hk
   match j, hj with
   | 0, hj => cases hj; exact (Ho4.out.lt k hb).1
   | 1, hj => cases hj; have := (Ho6.out.lt k hb).1; omega
  have HS := Lib.hid hS
  clear hS
  have hst : ∀ x, Keep S w6 x → Below W3.heap.size W3 x := fun x hk => Below.trans Hg36.out (hk.below hSge (by omega))
  have HMx := Lib.hid (show ∀ x, Keep S w6 x → ManiAt x x.heap.size (.agg #[.int .i64 m.gen, .slice A n c]) m from fun x hk => (HM3.out.keep fun p hp => (hst x hk).cell hp).more (hst x hk).size)
  have HIx := Lib.hid (show ∀ x, Keep S w6 x → ManiAt x x.heap.size (.agg #[.int .i64 m.gen, .slice (some ⟨o, 0, none⟩) n (n + 12)]) m from fun x hk => (HI3.out.keep fun p hp => (hst x hk).cell hp).more (hst x hk).size)
  have HLx := Lib.hid (show ∀ x, Keep S w6 x → LSAt x x.heap.size o 0 ps from fun x hk => (HL3.out.below (hst x hk)).more (hst x hk).size)
  have HBx := Lib.hid (show ∀ x, Keep S w6 x → Blk x w.heap.size 24 #[.int .i64 m.gen, .slice A n c] from fun x hk => hB3.below (hst x hk) hzB)
  have HCx := Lib.hid (show ∀ x, Keep S w6 x → Blk x w2.heap.size 24 #[.int .i64 m.gen, .slice (some ⟨o, 0, none⟩) n (n + 12)] from fun x hk => hC3.below (hst x hk) hzC)
  have HLa := Lib.hid (show ∀ x, Keep S w6 x → LaidOk x from fun x hk => (hL.grow HG3.out).grow (hst x hk))
  have Hst := Lib.hid hst
  clear hst hB6 hC6
  go_upto_region 7 with (fail)
  go_cut [2] from 31 to 64 (fun v2 wx => v2 = .bool true ∧ Below W3.heap.size W3 wx)
  case first Jx Kx hJx hMx =>
   refine wp_region_stages (by kernel_rfl) ?_
   refine anyOrder_start [6, 10, 12, 18, 24, 29, 32] (Keep S) (mpW w6 r) (FactsOn [.is (.int .i64 (mpE m)), .is (.int .i64 (mpE m)), .is (.bool true), .is (.bool true), .is (.slice A4 f c4), .is (.slice A5 f c5), .any, .is (.bool true), .is (.bool true), .is (.agg #[.int .i64 m.gen, .slice (some ⟨o, 0, none⟩) n (n + 12)]), .any, .is (.agg #[.int .i64 m.gen, .slice A n c]), .any, .is (.bool true), .is (.bool true), .is (.bool true), .is (.agg #[.int .i64 m.gen, .slice (some ⟨o, 0, none⟩) n (n + 12)]), .is (.agg #[.int .i64 m.gen, .slice A n c]), .any, .is (.bool true), .is (.bool true), .is (.slice A4 f c4), .is (.slice A6 f c6), .newS w6.heap.size hSlt 28 (.slice A4 f c4) (.slice A6 f c6), .any, .is (.bool true), .is (.bool true), .is (.agg #[.int .i64 m.gen, .slice (some ⟨o, 0, none⟩) n (n + 12)]), .is (.agg #[.int .i64 m.gen, .slice A n c]), .any, .is (.bool true), .is (.bool true), .any, .is (.bool true), .is (.bool true)]) (fun i => 99) keep_trans keep_grow (mpW.grow) (factsOn_mono _) (by kernel_rfl) (chainOk_paths [[], [8], [], [15], [20], [26], [31]] (by kernel_rfl) (by kernel_rfl) (by decide) (by decide)) (mpW.nil _ _) ?_ ?_
   ·refine ⟨?_, ?_, ?_, ?_, ?_, ?_, ?_, ?_, ?_, ?_, ?_, ?_, ?_, ?_, ?_, ?_, ?_, ?_, ?_, ?_, ?_, ?_, ?_, ?_, ?_, ?_, ?_, ?_, ?_, ?_, ?_, ?_, ?_, ?_, ?_, trivial⟩
    ·refine sF rfl rfl ?_
     intro us vals w3 a' ha hle hW hd hv K hK
     have q5 : a'.tmps[5]? = some (.int .i64 (mpE m)) := slot_old ha
     exact sV hK rfl
    ·refine sF rfl rfl ?_
     intro us vals w3 a' ha hle hW hd hv K hK
     have q7 : a'.tmps[7]? = some (.int .i64 (mpE m)) := slot_old ha
     exact sV hK rfl
    ·refine sF rfl rfl ?_
     intro us vals w3 a' ha hle hW hd hv K hK
     obtain ⟨d0, d1, _⟩ := hd
     have q31 : a'.tmps[31]? = some (us 0) := slot_get ha 0
     rw [show us 0 = .int .i64 (mpE m) from d0] at q31
     have q32 : a'.tmps[32]? = some (us 1) := slot_get ha 1
     rw [show us 1 = .int .i64 (mpE m) from d1] at q32
     exact sV (v := .bool true) hK rfl
    ·refine sF rfl rfl ?_
     intro us vals w3 a' ha hle hW hd hv K hK
     obtain ⟨d2, _⟩ := hd
     have q33 : a'.tmps[33]? = some (us 2) := slot_get ha 2
     rw [show us 2 = .bool true from d2] at q33
     exact sV hK rfl
    ·refine stageOf_free rfl (fun us vals w3 a' ha hd => ?_) ?_
     ·obtain ⟨d3, _⟩ := hd
      have q : a'.tmps[34]? = some (us 3) := slot_get ha 3
      rw [show us 3 = .bool true from d3] at q
      exact wanted_some rfl rfl q
     intro us vals w3 a' ha hle hW hd hv K hK
     have q4 : a'.tmps[4]? = some (.slice A4 f c4) := slot_old ha
     exact sV hK rfl
    ·refine stageOf_free rfl (fun us vals w3 a' ha hd => ?_) ?_
     ·obtain ⟨d3, _⟩ := hd
      have q : a'.tmps[34]? = some (us 3) := slot_get ha 3
      rw [show us 3 = .bool true from d3] at q
      exact wanted_some rfl rfl q
     intro us vals w3 a' ha hle hW hd hv K hK
     have q6 : a'.tmps[6]? = some (.slice A5 f c5) := slot_old ha
     exact sV hK rfl
    ·refine stageOf_mem (t := 0) rfl ?_
     intro us vals w3 a' ha hle hW hd hv
     obtain ⟨d4, d5, d3, _, _⟩ := hd
     obtain rfl := List.eq_nil_of_length_eq_zero (Nat.le_zero.1 (show vals.length ≤ 0 from Nat.le_of_eq hv))
     have qg : a'.tmps[34]? = some (us 3) := slot_get ha 3
     rw [show us 3 = .bool true from d3] at qg
     refine ⟨wanted_some rfl rfl qg, fun K hK => ?_⟩
     have q35 : a'.tmps[35]? = some (us 4) := slot_get ha 4
     rw [show us 4 = .slice A4 f c4 from d4] at q35
     have q36 : a'.tmps[36]? = some (us 5) := slot_get ha 5
     rw [show us 5 = .slice A5 f c5 from d5] at q36
     have hgw := hW.2 (by omega)
     refine step_call (f := 11) (args := #[.slice A4 f c4, .slice A5 f c5]) (by go_simp) ?_
     have hsb := SameBytes_any w3 w4.heap.size w5.heap.size A4 A5 f c4 f c5 (mpL m) (mpL m) (H43.out.below (Hg46.out.trans (Below.mono hgw (by omega)))) (H53.out.below (Below.trans Hg6.out (Below.mono hgw (by omega)))) (by unfold maxLen; omega) (by unfold maxLen; omega)
     rw [sameL_self] at hsb
     refine hsb.mono ?_
     rintro e w9 ⟨rfl, q9, rfl⟩
     exact ⟨_, rfl, hK _ _ (Keep.grow (Grow.drewN _ _)) (mpW.snoc hW hv rfl (fun _ => Grow.drewN _ _))⟩
    ·refine sF rfl rfl ?_
     intro us vals w3 a' ha hle hW hd hv K hK
     obtain ⟨d3, d6, _⟩ := hd
     have q34 : a'.tmps[34]? = some (us 3) := slot_get ha 3
     rw [show us 3 = .bool true from d3] at q34
     have q37 : a'.tmps[37]? = some (us 6) := slot_get ha 6
     have ej : us 6 = .bool true := mpW.v hW d6
     rw [ej] at q37
     exact sV (v := .bool true) hK rfl
    ·refine sF rfl rfl ?_
     intro us vals w3 a' ha hle hW hd hv K hK
     obtain ⟨d7, _, _⟩ := hd
     have q38 : a'.tmps[38]? = some (us 7) := slot_get ha 7
     rw [show us 7 = .bool true from d7] at q38
     exact sV hK rfl
    ·refine stageOf_free rfl (fun us vals w3 a' ha hd => ?_) ?_
     ·obtain ⟨d8, _⟩ := hd
      have q : a'.tmps[39]? = some (us 8) := slot_get ha 8
      rw [show us 8 = .bool true from d8] at q
      exact wanted_some rfl rfl q
     intro us vals w3 a' ha hle hW hd hv K hK
     have q3 : a'.tmps[3]? = some (.pointer (some ⟨w2.heap.size, 0, none⟩)) := slot_old ha
     have hb := HCx.out w3 hle
     have hc0 := hb.cell 0
     have hc1 := hb.cell 1
     exact sV (v := .agg #[.int .i64 m.gen, .slice (some ⟨o, 0, none⟩) n (n + 12)]) hK rfl
    ·refine stageOf_mem (t := 1) rfl ?_
     intro us vals w3 a' ha hle hW hd hv
     obtain ⟨d9, d8, _, _⟩ := hd
     obtain ⟨x0, rfl⟩ := List.length_eq_one_iff.1 hv
     have qg : a'.tmps[39]? = some (us 8) := slot_get ha 8
     rw [show us 8 = .bool true from d8] at qg
     refine ⟨wanted_some rfl rfl qg, fun K hK => ?_⟩
     have q40 : a'.tmps[40]? = some (us 9) := slot_get ha 9
     rw [show us 9 = .agg #[.int .i64 m.gen, .slice (some ⟨o, 0, none⟩) n (n + 12)] from d9] at q40
     refine step_call (f := 12) (args := #[.agg #[.int .i64 m.gen, .slice (some ⟨o, 0, none⟩) n (n + 12)]]) (by go_simp) ?_
     refine (Right_any w3 _ m (HIx.out w3 hle) r Hr).mono ?_
     rintro e w9 ⟨rfl, hg9⟩
     exact ⟨_, rfl, hK _ _ (Keep.grow hg9) (mpW.snoc hW hv rfl (fun _ => hg9))⟩
    ·refine stageOf_free rfl (fun us vals w3 a' ha hd => ?_) ?_
     ·obtain ⟨d8, _⟩ := hd
      have q : a'.tmps[39]? = some (us 8) := slot_get ha 8
      rw [show us 8 = .bool true from d8] at q
      exact wanted_some rfl rfl q
     intro us vals w3 a' ha hle hW hd hv K hK
     have q1 : a'.tmps[1]? = some (.pointer (some ⟨w.heap.size, 0, none⟩)) := slot_old ha
     have hb := HBx.out w3 hle
     have hc0 := hb.cell 0
     have hc1 := hb.cell 1
     exact sV (v := .agg #[.int .i64 m.gen, .slice A n c]) hK rfl
    ·refine stageOf_mem (t := 2) rfl ?_
     intro us vals w3 a' ha hle hW hd hv
     obtain ⟨d11, _, d8, _⟩ := hd
     have qg : a'.tmps[39]? = some (us 8) := slot_get ha 8
     rw [show us 8 = .bool true from d8] at qg
     refine ⟨wanted_some rfl rfl qg, fun K hK => ?_⟩
     have q42 : a'.tmps[42]? = some (us 11) := slot_get ha 11
     rw [show us 11 = .agg #[.int .i64 m.gen, .slice A n c] from d11] at q42
     refine step_call (f := 13) (args := #[.agg #[.int .i64 m.gen, .slice A n c]]) (by go_simp) ?_
     refine (mrRight_any w3 _ m (HMx.out w3 hle) r Hr).mono ?_
     rintro e w9 ⟨rfl, hg9⟩
     exact ⟨_, rfl, hK _ _ (Keep.grow hg9) (mpW.snoc hW hv rfl (fun _ => hg9))⟩
    ·refine stageOf_free rfl (fun us vals w3 a' ha hd => ?_) ?_
     ·obtain ⟨_, _, d8, _⟩ := hd
      have q : a'.tmps[39]? = some (us 8) := slot_get ha 8
      rw [show us 8 = .bool true from d8] at q
      exact wanted_some rfl rfl q
     intro us vals w3 a' ha hle hW hd hv K hK
     obtain ⟨d10, d12, _, _⟩ := hd
     have q41 : a'.tmps[41]? = some (us 10) := slot_get ha 10
     have q43 : a'.tmps[43]? = some (us 12) := slot_get ha 12
     have ea : us 10 = .bool r := mpW.v hW d10
     have eb : us 12 = .bool r := mpW.v hW d12
     rw [ea] at q41
     rw [eb] at q43
     exact sV (v := .bool true) hK rfl
    ·refine sF rfl rfl ?_
     intro us vals w3 a' ha hle hW hd hv K hK
     obtain ⟨d8, d13, _⟩ := hd
     have q39 : a'.tmps[39]? = some (us 8) := slot_get ha 8
     rw [show us 8 = .bool true from d8] at q39
     have q44 : a'.tmps[44]? = some (us 13) := slot_get ha 13
     rw [show us 13 = .bool true from d13] at q44
     exact sV (v := .bool true) hK rfl
    ·refine sF rfl rfl ?_
     intro us vals w3 a' ha hle hW hd hv K hK
     obtain ⟨d14, _, _⟩ := hd
     have q45 : a'.tmps[45]? = some (us 14) := slot_get ha 14
     rw [show us 14 = .bool true from d14] at q45
     exact sV hK rfl
    ·refine stageOf_free rfl (fun us vals w3 a' ha hd => ?_) ?_
     ·obtain ⟨d15, _⟩ := hd
      have q : a'.tmps[46]? = some (us 15) := slot_get ha 15
      rw [show us 15 = .bool true from d15] at q
      exact wanted_some rfl rfl q
     intro us vals w3 a' ha hle hW hd hv K hK
     have q3 : a'.tmps[3]? = some (.pointer (some ⟨w2.heap.size, 0, none⟩)) := slot_old ha
     have hb := HCx.out w3 hle
     have hc0 := hb.cell 0
     have hc1 := hb.cell 1
     exact sV (v := .agg #[.int .i64 m.gen, .slice (some ⟨o, 0, none⟩) n (n + 12)]) hK rfl
    ·refine stageOf_free rfl (fun us vals w3 a' ha hd => ?_) ?_
     ·obtain ⟨d15, _⟩ := hd
      have q : a'.tmps[46]? = some (us 15) := slot_get ha 15
      rw [show us 15 = .bool true from d15] at q
      exact wanted_some rfl rfl q
     intro us vals w3 a' ha hle hW hd hv K hK
     have q1 : a'.tmps[1]? = some (.pointer (some ⟨w.heap.size, 0, none⟩)) := slot_old ha
     have hb := HBx.out w3 hle
     have hc0 := hb.cell 0
     have hc1 := hb.cell 1
     exact sV (v := .agg #[.int .i64 m.gen, .slice A n c]) hK rfl
    ·refine stageOf_mem (t := 3) rfl ?_
     intro us vals w3 a' ha hle hW hd hv
     obtain ⟨d16, d17, d15, _, _⟩ := hd
     have qg : a'.tmps[46]? = some (us 15) := slot_get ha 15
     rw [show us 15 = .bool true from d15] at qg
     refine ⟨wanted_some rfl rfl qg, fun K hK => ?_⟩
     have q47 : a'.tmps[47]? = some (us 16) := slot_get ha 16
     rw [show us 16 = .agg #[.int .i64 m.gen, .slice (some ⟨o, 0, none⟩) n (n + 12)] from d16] at q47
     have q48 : a'.tmps[48]? = some (us 17) := slot_get ha 17
     rw [show us 17 = .agg #[.int .i64 m.gen, .slice A n c] from d17] at q48
     refine step_call (f := 14) (args := #[.agg #[.int .i64 m.gen, .slice (some ⟨o, 0, none⟩) n (n + 12)], .agg #[.int .i64 m.gen, .slice A n c]]) (by go_simp) ?_
     refine (KeptManifest_yes w3 m o n A c ps Hps.out (HLx.out w3 hle) (HMx.out w3 hle) (by omega) Htot.out).mono ?_
     rintro e w9 ⟨rfl, hg9⟩
     exact ⟨_, rfl, hK _ _ (Keep.grow hg9) (mpW.snoc hW hv rfl (fun _ => hg9))⟩
    ·refine sF rfl rfl ?_
     intro us vals w3 a' ha hle hW hd hv K hK
     obtain ⟨d15, d18, _⟩ := hd
     have q46 : a'.tmps[46]? = some (us 15) := slot_get ha 15
     rw [show us 15 = .bool true from d15] at q46
     have q49 : a'.tmps[49]? = some (us 18) := slot_get ha 18
     have ej : us 18 = .bool true := mpW.v hW d18
     rw [ej] at q49
     exact sV (v := .bool true) hK rfl
    ·refine sF rfl rfl ?_
     intro us vals w3 a' ha hle hW hd hv K hK
     obtain ⟨d19, _, _⟩ := hd
     have q50 : a'.tmps[50]? = some (us 19) := slot_get ha 19
     rw [show us 19 = .bool true from d19] at q50
     exact sV hK rfl
    ·refine stageOf_free rfl (fun us vals w3 a' ha hd => ?_) ?_
     ·obtain ⟨d20, _⟩ := hd
      have q : a'.tmps[51]? = some (us 20) := slot_get ha 20
      rw [show us 20 = .bool true from d20] at q
      exact wanted_some rfl rfl q
     intro us vals w3 a' ha hle hW hd hv K hK
     have q4 : a'.tmps[4]? = some (.slice A4 f c4) := slot_old ha
     exact sV hK rfl
    ·refine stageOf_free rfl (fun us vals w3 a' ha hd => ?_) ?_
     ·obtain ⟨d20, _⟩ := hd
      have q : a'.tmps[51]? = some (us 20) := slot_get ha 20
      rw [show us 20 = .bool true from d20] at q
      exact wanted_some rfl rfl q
     intro us vals w3 a' ha hle hW hd hv K hK
     have q8 : a'.tmps[8]? = some (.slice A6 f c6) := slot_old ha
     exact sV hK rfl
    ·refine stageOf_free rfl (fun us vals w3 a' ha hd => ?_) ?_
     ·obtain ⟨_, _, d20, _⟩ := hd
      have q : a'.tmps[51]? = some (us 20) := slot_get ha 20
      rw [show us 20 = .bool true from d20] at q
      exact wanted_some rfl rfl q
     intro us vals w3 a' ha hle hW hd hv K hK
     obtain ⟨d21, d22, _, _⟩ := hd
     have q52 : a'.tmps[52]? = some (us 21) := slot_get ha 21
     rw [show us 21 = .slice A4 f c4 from d21] at q52
     have q53 : a'.tmps[53]? = some (us 22) := slot_get ha 22
     rw [show us 22 = .slice A6 f c6 from d22] at q53
     refine step_value (v := .slice (some ⟨w3.heap.size, 0, none⟩) 2 2) (w2 := w3.alloc (.cells #[.slice A4 f c4, .slice A6 f c6] 28)) (by go_simp) (hK _ _ (Grow.alloc _ _) ⟨w3.heap.size, rfl, hle.size, Blk.new _ _ _⟩)
    ·refine stageOf_mem (t := 4) rfl ?_
     intro us vals w3 a' ha hle hW hd hv
     obtain ⟨⟨m23, u23, z23, b23⟩, d20, _, _⟩ := hd
     have qg : a'.tmps[51]? = some (us 20) := slot_get ha 20
     rw [show us 20 = .bool true from d20] at qg
     refine ⟨wanted_some rfl rfl qg, fun K hK => ?_⟩
     have q54 : a'.tmps[54]? = some (us 23) := slot_get ha 23
     rw [u23] at q54
     have hgw := hW.2 (by omega)
     refine step_call (f := 15) (args := #[.slice (some ⟨m23, 0, none⟩) 2 2]) (by go_simp) ?_
     have hrd : ReadsAt w3 w3.heap.size 1 (some ⟨m23, 0, none⟩) 2 [.slice A4 f c4, .slice A6 f c6] := ReadsAt.more (Blk.readsAll (cs := [.slice A4 f c4, .slice A6 f c6]) b23) b23.lt
     have hv4 := own_below Ho4.out (Hg46.out.trans hgw)
     have hv6 := own_below Ho6.out hgw
     have hV : ∀ (j : Nat) (v : Value), ([.slice A4 f c4, .slice A6 f c6] : List Value)[j]? = some v → ∃ L, w3.ownsRow W3.heap.size 5 1 v ((fun _ => f) j) L := by
      intro j v hv
      match j, hv with
      | 0, hv => cases hv; exact ⟨_, hv4⟩
      | 1, hv => cases hv; exact ⟨_, own_lowerM hv6 (by omega)⟩
     have hD : DistV [.slice A4 f c4, .slice A6 f c6] := by
      have h4 : ∀ b, (Value.slice A4 f c4).ownBlock = some b → b < w4.heap.size := fun b h => (Ho4.out.lt b h).2
      have h6 : ∀ b, (Value.slice A6 f c6).ownBlock = some b → w5.heap.size ≤ b := fun b h => (Ho6.out.lt b h).1
      intro i j v v' b hi hj hij hb hb'
      match i, j, hi, hj with
      | 0, 0, _, _ => exact hij rfl
      | 1, 1, _, _ => exact hij rfl
      | 0, 1, hi, hj => cases hi; cases hj; have := h4 b hb; have := h6 b hb'; omega
      | 1, 0, hi, hj => cases hi; cases hj; have := h4 b hb'; have := h6 b hb; omega
     refine (ApartBytes_any w3 W3.heap.size w3.heap.size (some ⟨m23, 0, none⟩) 2 2 [.slice A4 f c4, .slice A6 f c6] (fun _ => f) hrd (Nat.le_refl _) hV hD (by have := hgw.size; omega) (by omega) (fun _ => by omega)).mono ?_
     rintro e w9 ⟨rfl, hk9, -⟩
     rw [← HS.out] at hk9
     exact ⟨_, rfl, hK _ _ hk9 (mpW.snoc hW hv rfl (fun h => absurd h (by omega)))⟩
    ·refine sF rfl rfl ?_
     intro us vals w3 a' ha hle hW hd hv K hK
     obtain ⟨d20, d24, _⟩ := hd
     have q51 : a'.tmps[51]? = some (us 20) := slot_get ha 20
     rw [show us 20 = .bool true from d20] at q51
     have q55 : a'.tmps[55]? = some (us 24) := slot_get ha 24
     have ej : us 24 = .bool true := mpW.v hW d24
     rw [ej] at q55
     exact sV (v := .bool true) hK rfl
    ·refine sF rfl rfl ?_
     intro us vals w3 a' ha hle hW hd hv K hK
     obtain ⟨d25, _, _⟩ := hd
     have q56 : a'.tmps[56]? = some (us 25) := slot_get ha 25
     rw [show us 25 = .bool true from d25] at q56
     exact sV hK rfl
    ·refine stageOf_free rfl (fun us vals w3 a' ha hd => ?_) ?_
     ·obtain ⟨d26, _⟩ := hd
      have q : a'.tmps[57]? = some (us 26) := slot_get ha 26
      rw [show us 26 = .bool true from d26] at q
      exact wanted_some rfl rfl q
     intro us vals w3 a' ha hle hW hd hv K hK
     have q3 : a'.tmps[3]? = some (.pointer (some ⟨w2.heap.size, 0, none⟩)) := slot_old ha
     have hb := HCx.out w3 hle
     have hc0 := hb.cell 0
     have hc1 := hb.cell 1
     exact sV (v := .agg #[.int .i64 m.gen, .slice (some ⟨o, 0, none⟩) n (n + 12)]) hK rfl
    ·refine stageOf_free rfl (fun us vals w3 a' ha hd => ?_) ?_
     ·obtain ⟨d26, _⟩ := hd
      have q : a'.tmps[57]? = some (us 26) := slot_get ha 26
      rw [show us 26 = .bool true from d26] at q
      exact wanted_some rfl rfl q
     intro us vals w3 a' ha hle hW hd hv K hK
     have q1 : a'.tmps[1]? = some (.pointer (some ⟨w.heap.size, 0, none⟩)) := slot_old ha
     have hb := HBx.out w3 hle
     have hc0 := hb.cell 0
     have hc1 := hb.cell 1
     exact sV (v := .agg #[.int .i64 m.gen, .slice A n c]) hK rfl
    ·refine stageOf_mem (t := 5) rfl ?_
     intro us vals w3 a' ha hle hW hd hv
     obtain ⟨d27, d28, d26, _, _⟩ := hd
     have qg : a'.tmps[57]? = some (us 26) := slot_get ha 26
     rw [show us 26 = .bool true from d26] at qg
     refine ⟨wanted_some rfl rfl qg, fun K hK => ?_⟩
     have q58 : a'.tmps[58]? = some (us 27) := slot_get ha 27
     rw [show us 27 = .agg #[.int .i64 m.gen, .slice (some ⟨o, 0, none⟩) n (n + 12)] from d27] at q58
     have q59 : a'.tmps[59]? = some (us 28) := slot_get ha 28
     rw [show us 28 = .agg #[.int .i64 m.gen, .slice A n c] from d28] at q59
     refine step_call (f := 14) (args := #[.agg #[.int .i64 m.gen, .slice (some ⟨o, 0, none⟩) n (n + 12)], .agg #[.int .i64 m.gen, .slice A n c]]) (by go_simp) ?_
     refine (KeptManifest_yes w3 m o n A c ps Hps.out (HLx.out w3 hle) (HMx.out w3 hle) (by omega) Htot.out).mono ?_
     rintro e w9 ⟨rfl, hg9⟩
     exact ⟨_, rfl, hK _ _ (Keep.grow hg9) (mpW.snoc hW hv rfl (fun _ => hg9))⟩
    ·refine sF rfl rfl ?_
     intro us vals w3 a' ha hle hW hd hv K hK
     obtain ⟨d26, d29, _⟩ := hd
     have q57 : a'.tmps[57]? = some (us 26) := slot_get ha 26
     rw [show us 26 = .bool true from d26] at q57
     have q60 : a'.tmps[60]? = some (us 29) := slot_get ha 29
     have ej : us 29 = .bool true := mpW.v hW d29
     rw [ej] at q60
     exact sV (v := .bool true) hK rfl
    ·refine sF rfl rfl ?_
     intro us vals w3 a' ha hle hW hd hv K hK
     obtain ⟨d30, _, _⟩ := hd
     have q61 : a'.tmps[61]? = some (us 30) := slot_get ha 30
     rw [show us 30 = .bool true from d30] at q61
     exact sV hK rfl
    ·refine stageOf_mem (t := 6) rfl ?_
     intro us vals w3 a' ha hle hW hd hv
     obtain ⟨d31, _, _⟩ := hd
     have qg : a'.tmps[62]? = some (us 31) := slot_get ha 31
     rw [show us 31 = .bool true from d31] at qg
     refine ⟨wanted_some rfl rfl qg, fun K hK => ?_⟩
     refine step_call (f := 7) (args := #[]) (by go_simp) ?_
     refine (awake25_any w3 (HLa.out w3 hle)).mono ?_
     rintro e w9 ⟨rfl, hg9⟩
     exact ⟨_, rfl, hK _ _ (Keep.grow hg9) (mpW.snoc hW hv rfl (fun h => absurd h (by omega)))⟩
    ·refine sF rfl rfl ?_
     intro us vals w3 a' ha hle hW hd hv K hK
     obtain ⟨d31, d32, _⟩ := hd
     have q62 : a'.tmps[62]? = some (us 31) := slot_get ha 31
     rw [show us 31 = .bool true from d31] at q62
     have q63 : a'.tmps[63]? = some (us 32) := slot_get ha 32
     have ej : us 32 = .bool true := mpW.v hW d32
     rw [ej] at q63
     exact sV (v := .bool true) hK rfl
    ·refine sF rfl rfl ?_
     intro us vals w3 a' ha hle hW hd hv K hK
     obtain ⟨d33, _, _, _, _, _, _, _, _, _, _, _, _, _, _, _, _, _, _, _, _, _, _, _, _, _, _, _, _, _, _, _, _, _, _, _, _⟩ := hd
     have q64 : a'.tmps[64]? = some (us 33) := slot_get ha 33
     rw [show us 33 = .bool true from d33] at q64
     exact sV hK rfl
   ·intro us vals x hle hvl hV _ hf
    exact hMx _ _ (Met.intro (hJx _ _ ⟨us 34, us 0, us 1, us 2, us 3, us 4, us 5, us 6, us 7, us 8, us 9, us 10, us 11, us 12, us 13, us 14, us 15, us 16, us 17, us 18, us 19, us 20, us 21, us 22, us 23, us 24, us 25, us 26, us 27, us 28, us 29, us 30, us 31, us 32, us 33, ⟨hf 34 (by decide) rfl, Hst.out x hle⟩, by kernel_rfl⟩))
  case rest =>
   obtain ⟨rfl, hbx⟩ := hcut
   go_wp2
   go_ret
   exact ⟨rfl, Below.trans HG3.out (Below.mono hbx HG3.out.size)⟩
end Go.Proofs.YtcimkoehcdfjdaaGreatDoor
