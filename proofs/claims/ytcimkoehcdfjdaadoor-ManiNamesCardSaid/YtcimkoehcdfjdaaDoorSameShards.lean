/-
  The walks of mudlarkkit's SameShardRef, SameShardRefs and SameManifest.
-/
import Derived.Test.YtcimkoehcdfjdaaDoorManiKit
namespace Go.Proofs.YtcimkoehcdfjdaaDoor
open Go.RowKit WireM
set_option linter.unusedVariables false

def sameShardB (a b : ShardM) : Bool := (a.num == b.num) && ((a.size == b.size) && ((a.sum == b.sum) && sameL a.dead b.dead))
theorem shard_range {w : World} {b off k : Nat} {t : ShardM} {A1 : Option Addr} {n1 c1 : Nat} (h0 : w.cell? ⟨b, off + k * 4, none⟩ = some (.int .i64 t.num)) (h1 : w.cell? ⟨b, off + k * 4 + 1, none⟩ = some (.int .i64 t.size)) (h2 : w.cell? ⟨b, off + k * 4 + 2, none⟩ = some (.int .u32 (t.sum.toNat : Int))) (h3 : w.cell? ⟨b, off + k * 4 + 3, none⟩ = some (.slice A1 n1 c1)) : w.rangeAt b (off + k * 4) [.int .i64 t.num, .int .i64 t.size, .int .u32 (t.sum.toNat : Int), .slice A1 n1 c1] := fun j v hj => by
  match j, hj with
  | 0, hj => cases hj; exact h0
  | 1, hj => cases hj; exact h1
  | 2, hj => cases hj; exact h2
  | 3, hj => cases hj; exact h3
set_option maxRecDepth 100000 in
set_option maxHeartbeats 1000000 in
theorem SameShardRef_any (w : World) (B : Nat) (a b : ShardM) (A : Option Addr) (n c : Nat) (A2 : Option Addr) (n2 c2 : Nat) (hR : IntsAt w B A n a.dead) (hR2 : IntsAt w B A2 n2 b.dead) (hB : B ≤ w.heap.size) (hn : n ≤ maxLen) (hn2 : n2 ≤ maxLen) (r : Bool) (Hr : Hid (r = sameShardB a b)) :
    Calls Tryd.prog 59 #[.agg #[.int .i64 a.num, .int .i64 a.size, .int .u32 (a.sum.toNat : Int), .slice A n c], .agg #[.int .i64 b.num, .int .i64 b.size, .int .u32 (b.sum.toNat : Int), .slice A2 n2 c2]] w fun e w' => e = .returned (.bool r) ∧ Grow w w' := by
  obtain ⟨w1, hw1⟩ : ∃ w1, ((w.alloc (.cells #[.int .i64 a.num, .int .i64 a.size, .int .u32 (a.sum.toNat : Int), .slice A n c] 52)).alloc (.cells #[.int .i64 b.num, .int .i64 b.size, .int .u32 (b.sum.toNat : Int), .slice A2 n2 c2] 52)) = w1 := ⟨_, rfl⟩
  have hG : Grow w w1 := by rw [← hw1]; exact (Grow.alloc _ _).trans (Grow.alloc _ _)
  have h1 : IntsAt w1 B A n a.dead := ReadsAt.keep hR fun p hp => hG.cell (Nat.lt_of_lt_of_le hp hB)
  have h2 : IntsAt w1 B A2 n2 b.dead := ReadsAt.keep hR2 fun p hp => hG.cell (Nat.lt_of_lt_of_le hp hB)
  subst hw1
  have H1 := Lib.hid h1
  have H2 := Lib.hid h2
  clear h1 h2 hR hR2
  by_cases ht : a.num = b.num
  · have d1 : (a.num == b.num) = true := by rw [ht]; simp
    by_cases hs : a.size = b.size
    · have d2 : (a.size == b.size) = true := by rw [hs]; simp
      by_cases hu : a.sum = b.sum
      · have d3 : ((a.sum.toNat : Int) == (b.sum.toNat : Int)) = true := by rw [hu]; simp
        have Hr2 := Lib.hid (show r = sameL a.dead b.dead by rw [Hr.out, sameShardB, ht, hs, hu]; simp)
        clear ht hs hu
        go_enter Tryd.func59, Tryd.ntmps59
        go_wp2_with (go_at_call 75; refine (SameInts_any _ B B A A2 n c n2 c2 a.dead b.dead H1.out H2.out hn hn2).mono ?_; rintro e w3 ⟨rfl, q, rfl⟩)
        go_ret
        exact ⟨ret_bool Hr2.out.symm, hG.trans (Grow.drewN _ _)⟩
      · have d3 : ((a.sum.toNat : Int) == (b.sum.toNat : Int)) = false := by rw [beq_eq_false_iff_ne]; intro h; exact hu (BitVec.eq_of_toNat_eq (by omega))
        have Hr2 := Lib.hid (show r = false by rw [Hr.out, sameShardB, beq_eq_false_iff_ne.2 hu]; simp)
        clear ht hs hu
        go_enter Tryd.func59, Tryd.ntmps59
        go_wp2
        go_ret
        exact ⟨ret_bool Hr2.out.symm, hG⟩
    · have d2 : (a.size == b.size) = false := by rw [beq_eq_false_iff_ne]; exact hs
      have Hr2 := Lib.hid (show r = false by rw [Hr.out, sameShardB, d2]; simp)
      clear ht hs
      go_enter Tryd.func59, Tryd.ntmps59
      go_wp2
      go_ret
      exact ⟨ret_bool Hr2.out.symm, hG⟩
  · have d1 : (a.num == b.num) = false := by rw [beq_eq_false_iff_ne]; exact ht
    have Hr2 := Lib.hid (show r = false by rw [Hr.out, sameShardB, d1, Bool.false_and])
    clear ht
    go_enter Tryd.func59, Tryd.ntmps59
    go_wp2
    go_ret
    exact ⟨ret_bool Hr2.out.symm, hG⟩

/-- shards that are the same -/
def sameShardsB : List ShardM → List ShardM → Bool
  | [], [] => true
  | a :: l, b :: m => sameShardB a b && sameShardsB l m
  | _, _ => false
theorem sameShardsB_len : ∀ {l m : List ShardM}, l.length ≠ m.length → sameShardsB l m = false
  | [], [], h => absurd rfl h
  | [], _ :: _, _ => rfl
  | _ :: _, [], _ => rfl
  | a :: l, b :: m, h => by
    rw [sameShardsB, sameShardsB_len (l := l) (m := m) (fun e => h (by simp [e])), Bool.and_false]
theorem sameShardsB_drop {l m : List ShardM} {k : Nat} {a b : ShardM} (h1 : l[k]? = some a) (h2 : m[k]? = some b) : sameShardsB (l.drop k) (m.drop k) = (sameShardB a b && sameShardsB (l.drop (k + 1)) (m.drop (k + 1))) := by
  obtain ⟨p1, q1⟩ := List.getElem?_eq_some_iff.1 h1
  obtain ⟨p2, q2⟩ := List.getElem?_eq_some_iff.1 h2
  rw [List.drop_eq_getElem_cons p1, List.drop_eq_getElem_cons p2, q1, q2, sameShardsB]

set_option maxRecDepth 100000 in
set_option maxHeartbeats 4000000 in
theorem SameShardRefs_any (w : World) (A : Option Addr) (n c : Nat) (A2 : Option Addr) (n2 c2 : Nat) (l m : List ShardM) (hT : ShardsAt w w.heap.size A n l) (hT2 : ShardsAt w w.heap.size A2 n2 m) (hn : n ≤ 4398046510976) (hn2 : n2 ≤ 4398046510976) :
    Calls Tryd.prog 40 #[.slice A n c, .slice A2 n2 c2] w fun e w' => e = .returned (.bool (sameShardsB l m)) ∧ Grow w w' := by
  have hl1 := hT.len
  have hl2 := hT2.len
  by_cases hnn : n = n2
  · subst hnn
    have Hl1 := Lib.hid hl1
    have Hl2 := Lib.hid hl2
    have hnb : ((n : Int) == (n : Int)) = true := by simp
    clear hl1 hl2
    go_enter Tryd.func40, Tryd.ntmps40
    go_wp2
    go_loopw [5] (fun v5 wr => ∃ k : Nat, k ≤ n ∧ v5 = .int .i64 (k : Int) ∧ Hid (sameShardsB l m = sameShardsB (l.drop k) (m.drop k)) ∧ Hid (Grow w wr)) (fun v5 _ => n - (intOf v5).toNat)
    case atStart => exact ⟨0, by omega, rfl, by simp [Hid], Grow.refl w⟩
    case round =>
      obtain ⟨k, hk, rfl, hs, hg⟩ := hrel
      by_cases hlt : k < n
      · obtain ⟨a, ha⟩ : ∃ a, l[k]? = some a := ⟨_, List.getElem?_eq_getElem (by rw [Hl1.out]; exact hlt)⟩
        obtain ⟨b, hb⟩ : ∃ b, m[k]? = some b := ⟨_, List.getElem?_eq_getElem (by rw [Hl2.out]; exact hlt)⟩
        have hgz := hg.out.size
        obtain ⟨b1, off1, A1, n1, c1, rfl, hb1, hc0, hc1, hc2, hc3, hnc1, -, hcm1, hr1, -⟩ := (hT.below hg.out).at_ ha
        obtain ⟨b2, off2, A2', n2', c2', rfl, hb2, hd0, hd1, hd2, hd3, hnc2, -, hcm2, hr2, -⟩ := (hT2.below hg.out).at_ hb
        have Hm1 := Lib.hid (shard_range hc0 hc1 hc2 hc3)
        have Hm2 := Lib.hid (shard_range hd0 hd1 hd2 hd3)
        have hz1 : b1 < wr.heap.size := by omega
        have hz2 : b2 < wr.heap.size := by omega
        obtain ⟨r, hr⟩ : ∃ r, r = sameShardB a b := ⟨_, rfl⟩
        have Hr := Lib.hid hr
        have Hdr := Lib.hid (show sameShardsB l m = (r && sameShardsB (l.drop (k + 1)) (m.drop (k + 1))) by rw [hs.out, sameShardsB_drop ha hb, hr])
        have Hr1 := Lib.hid (show ∀ W, Grow wr W → IntsAt W w.heap.size A1 n1 a.dead from fun W h => ReadsAt.keep hr1 fun p hp => h.cell (Nat.lt_of_lt_of_le hp hgz))
        have Hr2 := Lib.hid (show ∀ W, Grow wr W → IntsAt W w.heap.size A2' n2' b.dead from fun W h => ReadsAt.keep hr2 fun p hp => h.cell (Nat.lt_of_lt_of_le hp hgz))
        clear ha hb hc0 hc1 hc2 hc3 hd0 hd1 hd2 hd3 hr hr1 hr2 hs
        go_upto_region 6 with (fail)
        go_cut [26] from 17 to 26 (fun v26 wx => v26 = .bool (!r) ∧ Grow wr wx)
        case first Jx Kx hJx hMx =>
          refine wp_region_facts (by kernel_rfl) (Facts [.is (.slice (some ⟨b1, off1, none⟩) n c), .is (.int .i64 (k : Int)), .is (.pointer (some ⟨b1, off1 + k * 4, none⟩)), .is (.agg #[.int .i64 a.num, .int .i64 a.size, .int .u32 (a.sum.toNat : Int), .slice A1 n1 c1]), .is (.slice (some ⟨b2, off2, none⟩) n c2), .is (.int .i64 (k : Int)), .is (.pointer (some ⟨b2, off2 + k * 4, none⟩)), .is (.agg #[.int .i64 b.num, .int .i64 b.size, .int .u32 (b.sum.toNat : Int), .slice A2' n2' c2']), .is (.bool r), .is (.bool (!r))]) (Facts.mono _) (by kernel_rfl) ?_ ?_
          · refine ⟨?_, ?_, ?_, ?_, ?_, ?_, ?_, ?_, ?_, ?_, trivial⟩
            · refine stepOf_wanted (fun _ _ _ _ _ => wanted_none rfl) ?_
              intro us w3 a' ha hg hd K hK
              have q0 : a'.tmps[0]? = some (.slice (some ⟨b1, off1, none⟩) n c) := by rw [ha.out]; kernel_rfl
              exact step_value (w2 := w3) (by go_simp) (hK _ _ (Grow.refl _) rfl)
            · refine stepOf_wanted (fun _ _ _ _ _ => wanted_none rfl) ?_
              intro us w3 a' ha hg hd K hK
              have q5 : a'.tmps[5]? = some (.int .i64 (k : Int)) := by rw [ha.out]; kernel_rfl
              exact step_value (w2 := w3) (by go_simp) (hK _ _ (Grow.refl _) rfl)
            · refine stepOf_wanted (fun _ _ _ _ _ => wanted_none rfl) ?_
              intro us w3 a' ha hg hd K hK
              obtain ⟨d0, d1, _⟩ := hd
              have q17 : a'.tmps[17]? = some (us 0) := by rw [ha.out]; kernel_rfl
              rw [show us 0 = .slice (some ⟨b1, off1, none⟩) n c from d0] at q17
              have q18 : a'.tmps[18]? = some (us 1) := by rw [ha.out]; kernel_rfl
              rw [show us 1 = .int .i64 (k : Int) from d1] at q18
              refine step_value (v := .pointer (some ⟨b1, off1 + k * 4, none⟩)) (w2 := w3) ?_ (hK _ _ (Grow.refl _) rfl)
              go_simp
              (try (intro h; omega))
            · refine stepOf_wanted (fun _ _ _ _ _ => wanted_none rfl) ?_
              intro us w3 a' ha hg hd K hK
              obtain ⟨d2, _⟩ := hd
              have q19 : a'.tmps[19]? = some (us 2) := by rw [ha.out]; kernel_rfl
              rw [show us 2 = .pointer (some ⟨b1, off1 + k * 4, none⟩) from d2] at q19
              exact wp_load_mid 52 (.tmp 19) rfl b1 (off1 + k * 4) (eval_tmp q19) _ _ (fun j v hj => (hg.cell (p := ⟨b1, off1 + k * 4 + j, none⟩) hz1).trans (Hm1.out j v hj)) Tryd.underlying52 rfl (by kernel_rfl) (hK _ _ (Grow.refl _) rfl)
            · refine stepOf_wanted (fun _ _ _ _ _ => wanted_none rfl) ?_
              intro us w3 a' ha hg hd K hK
              have q1 : a'.tmps[1]? = some (.slice (some ⟨b2, off2, none⟩) n c2) := by rw [ha.out]; kernel_rfl
              exact step_value (w2 := w3) (by go_simp) (hK _ _ (Grow.refl _) rfl)
            · refine stepOf_wanted (fun _ _ _ _ _ => wanted_none rfl) ?_
              intro us w3 a' ha hg hd K hK
              have q5 : a'.tmps[5]? = some (.int .i64 (k : Int)) := by rw [ha.out]; kernel_rfl
              exact step_value (w2 := w3) (by go_simp) (hK _ _ (Grow.refl _) rfl)
            · refine stepOf_wanted (fun _ _ _ _ _ => wanted_none rfl) ?_
              intro us w3 a' ha hg hd K hK
              obtain ⟨d4, d5, _⟩ := hd
              have q21 : a'.tmps[21]? = some (us 4) := by rw [ha.out]; kernel_rfl
              rw [show us 4 = .slice (some ⟨b2, off2, none⟩) n c2 from d4] at q21
              have q22 : a'.tmps[22]? = some (us 5) := by rw [ha.out]; kernel_rfl
              rw [show us 5 = .int .i64 (k : Int) from d5] at q22
              refine step_value (v := .pointer (some ⟨b2, off2 + k * 4, none⟩)) (w2 := w3) ?_ (hK _ _ (Grow.refl _) rfl)
              go_simp
              (try (intro h; omega))
            · refine stepOf_wanted (fun _ _ _ _ _ => wanted_none rfl) ?_
              intro us w3 a' ha hg hd K hK
              obtain ⟨d6, _⟩ := hd
              have q23 : a'.tmps[23]? = some (us 6) := by rw [ha.out]; kernel_rfl
              rw [show us 6 = .pointer (some ⟨b2, off2 + k * 4, none⟩) from d6] at q23
              exact wp_load_mid 52 (.tmp 23) rfl b2 (off2 + k * 4) (eval_tmp q23) _ _ (fun j v hj => (hg.cell (p := ⟨b2, off2 + k * 4 + j, none⟩) hz2).trans (Hm2.out j v hj)) Tryd.underlying52 rfl (by kernel_rfl) (hK _ _ (Grow.refl _) rfl)
            · refine stepOf_wanted (fun _ _ _ _ _ => wanted_none rfl) ?_
              intro us w3 a' ha hg hd K hK
              obtain ⟨d3, d7, _⟩ := hd
              have q20 : a'.tmps[20]? = some (us 3) := by rw [ha.out]; kernel_rfl
              rw [show us 3 = .agg #[.int .i64 a.num, .int .i64 a.size, .int .u32 (a.sum.toNat : Int), .slice A1 n1 c1] from d3] at q20
              have q24 : a'.tmps[24]? = some (us 7) := by rw [ha.out]; kernel_rfl
              rw [show us 7 = .agg #[.int .i64 b.num, .int .i64 b.size, .int .u32 (b.sum.toNat : Int), .slice A2' n2' c2'] from d7] at q24
              refine step_call (f := 59) (args := #[.agg #[.int .i64 a.num, .int .i64 a.size, .int .u32 (a.sum.toNat : Int), .slice A1 n1 c1], .agg #[.int .i64 b.num, .int .i64 b.size, .int .u32 (b.sum.toNat : Int), .slice A2' n2' c2']]) (by go_simp) ?_
              refine (SameShardRef_any w3 w.heap.size a b A1 n1 c1 A2' n2' c2' (Hr1.out w3 hg) (Hr2.out w3 hg) (Nat.le_trans hgz hg.size) (by simp only [maxLen]; omega) (by simp only [maxLen]; omega) r Hr).mono ?_
              rintro e w4 ⟨rfl, hg4⟩
              exact ⟨_, rfl, hK _ _ hg4 rfl⟩
            · refine stepOf_wanted (fun _ _ _ _ _ => wanted_none rfl) ?_
              intro us w3 a' ha hg hd K hK
              obtain ⟨d8, _⟩ := hd
              have q25 : a'.tmps[25]? = some (us 8) := by rw [ha.out]; kernel_rfl
              rw [show us 8 = .bool r from d8] at q25
              refine step_value (v := .bool (!r)) (w2 := w3) ?_ (hK _ _ (Grow.refl _) rfl)
              go_simp
          · intro us w3 hg3 hf
            have h9 : us 9 = .bool (!r) := hf 9 (by decide)
            exact hMx _ _ (Met.intro (hJx _ _ ⟨us 0, us 1, us 2, us 3, us 4, us 5, us 6, us 7, us 8, us 9, ⟨h9, hg3⟩, by kernel_rfl⟩))
        case rest =>
          obtain ⟨rfl, hgx⟩ := hcut
          have HG := Lib.hid (hg.out.trans hgx)
          clear hgx hg
          cases r with
          | true =>
            have Hs2 := Lib.hid (show sameShardsB l m = sameShardsB (l.drop (k + 1)) (m.drop (k + 1)) by rw [Hdr.out, Bool.true_and])
            go_wp2
            go_roundw
            case rel => exact ⟨k + 1, by omega, by go_num, Hs2, HG⟩
            case measure => simp [intOf]; omega
          | false =>
            have Hs2 := Lib.hid (show sameShardsB l m = false by rw [Hdr.out, Bool.false_and])
            go_wp2
            go_ret
            exact ⟨ret_bool Hs2.out.symm, HG.out⟩
      · obtain rfl : k = n := by omega
        have hfin := Lib.hid (show sameShardsB l m = true by rw [hs.out, List.drop_eq_nil_iff.2 (by rw [Hl1.out]; exact Nat.le_refl _), List.drop_eq_nil_iff.2 (by rw [Hl2.out]; exact Nat.le_refl _)]; rfl)
        go_wp2
        go_ret
        exact ⟨ret_bool hfin.out.symm, hg.out⟩
  · have hnb : ((n : Int) == (n2 : Int)) = false := by rw [beq_eq_false_iff_ne]; omega
    have hfin := Lib.hid (sameShardsB_len (l := l) (m := m) (by rw [hl1, hl2]; exact hnn))
    clear hnn hl1 hl2
    go_enter Tryd.func40, Tryd.ntmps40
    go_wp2
    go_ret
    exact ⟨ret_bool hfin.out.symm, Grow.refl w⟩

theorem sameShardB_iff {a b : ShardM} : sameShardB a b = true ↔ a = b := by
  cases a; cases b
  simp [sameShardB, sameL]
theorem sameShardsB_iff : ∀ {l m : List ShardM}, sameShardsB l m = true ↔ l = m
  | [], [] => by simp [sameShardsB]
  | [], _ :: _ => by simp [sameShardsB]
  | _ :: _, [] => by simp [sameShardsB]
  | a :: l, b :: m => by rw [sameShardsB, Bool.and_eq_true, sameShardB_iff, sameShardsB_iff, List.cons.injEq]
def sameManiB (a b : ManiM) : Bool := (a.gen == b.gen) && sameShardsB a.shards b.shards
theorem sameManiB_iff {a b : ManiM} : sameManiB a b = true ↔ a = b := by
  cases a; cases b
  simp [sameManiB, sameShardsB_iff]
/-- a manifest as a value -/
structure ManiAt (w : World) (B : Nat) (v : Value) (m : ManiM) : Prop where
  val : ∃ A n c, v = .agg #[.int .i64 m.gen, .slice A n c] ∧ n ≤ c ∧ c ≤ maxLen ∧ n ≤ 4398046510976 ∧ ShardsAt w B A n m.shards
  gen : Wide64 m.gen
section
variable {w w' : World} {B B' : Nat} {v : Value} {m : ManiM}
theorem ManiAt.keep (h : ManiAt w B v m) (hk : ∀ p : Addr, p.block < B → w'.cell? p = w.cell? p) : ManiAt w' B v m := by
  obtain ⟨⟨A, n, c, h1, h2, h3, h4, h5⟩, hg⟩ := h
  exact ⟨⟨A, n, c, h1, h2, h3, h4, h5.keep hk⟩, hg⟩
theorem ManiAt.more (h : ManiAt w B v m) (hB : B ≤ B') : ManiAt w B' v m := by
  obtain ⟨⟨A, n, c, h1, h2, h3, h4, h5⟩, hg⟩ := h
  exact ⟨⟨A, n, c, h1, h2, h3, h4, h5.more hB⟩, hg⟩
theorem ManiAt.grow (h : ManiAt w B v m) (hB : B ≤ w.heap.size) (hG : Grow w w') : ManiAt w' w'.heap.size v m := (h.keep fun p hp => hG.cell (Nat.lt_of_lt_of_le hp hB)).more (Nat.le_trans hB hG.size)
end
set_option maxRecDepth 100000 in
set_option maxHeartbeats 1000000 in
theorem SameManifest_any (w : World) (v1 v2 : Value) (a b : ManiM) (h1 : ManiAt w w.heap.size v1 a) (h2 : ManiAt w w.heap.size v2 b) (r : Bool) (Hr : Hid (r = sameManiB a b)) :
    Calls Tryd.prog 14 #[v1, v2] w fun e w' => e = .returned (.bool r) ∧ Grow w w' := by
  obtain ⟨⟨A, n, c, rfl, -, -, hn, h1⟩, -⟩ := h1
  obtain ⟨⟨A2, n2, c2, rfl, -, -, hn2, h2⟩, -⟩ := h2
  obtain ⟨w1, hw1⟩ : ∃ w1, ((w.alloc (.cells #[.int .i64 a.gen, .slice A n c] 34)).alloc (.cells #[.int .i64 b.gen, .slice A2 n2 c2] 34)) = w1 := ⟨_, rfl⟩
  have hG : Grow w w1 := by rw [← hw1]; exact (Grow.alloc _ _).trans (Grow.alloc _ _)
  have H1 := Lib.hid (show ShardsAt w1 w1.heap.size A n a.shards from (h1.keep fun p hp => hG.cell hp).more hG.size)
  have H2 := Lib.hid (show ShardsAt w1 w1.heap.size A2 n2 b.shards from (h2.keep fun p hp => hG.cell hp).more hG.size)
  subst hw1
  clear h1 h2
  by_cases ht : a.gen = b.gen
  · have d1 : (a.gen == b.gen) = true := by rw [ht]; simp
    have Hr2 := Lib.hid (show r = sameShardsB a.shards b.shards by rw [Hr.out, sameManiB, ht]; simp)
    clear ht
    go_enter Tryd.func14, Tryd.ntmps14
    go_wp2_with (go_at_call 40; refine (SameShardRefs_any _ A n c A2 n2 c2 a.shards b.shards H1.out H2.out (by omega) (by omega)).mono ?_; rintro e w3 ⟨rfl, hG3⟩)
    go_ret
    exact ⟨ret_bool Hr2.out.symm, hG.trans hG3⟩
  · have d1 : (a.gen == b.gen) = false := by rw [beq_eq_false_iff_ne]; exact ht
    have Hr2 := Lib.hid (show r = false by rw [Hr.out, sameManiB, d1, Bool.false_and])
    clear ht
    go_enter Tryd.func14, Tryd.ntmps14
    go_wp2
    go_ret
    exact ⟨ret_bool Hr2.out.symm, hG⟩
end Go.Proofs.YtcimkoehcdfjdaaDoor

