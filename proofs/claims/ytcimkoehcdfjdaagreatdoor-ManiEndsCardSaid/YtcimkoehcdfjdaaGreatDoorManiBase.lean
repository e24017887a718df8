/-
  Manifests in memory: shards, a manifest; the walk of mani's rising, and of mudlarkkit's SameShardRef, SameShardRefs, SameManifest.
  The walks of mudlarkkit's SameShardRef, SameShardRefs and SameManifest.
  The walk of mani's Right.
-/
import Derived.Deep.MidRow
import Derived.Deep.DeepCutAuto
import Derived.Deep.CutRange
import Derived.Test.YtcimkoehcdfjdaaGreatDoorBaseB
import Derived.Test.YtcimkoehcdfjdaaGreatDoorBaseA
import Derived.Test.YtcimkoehcdfjdaaGreatDoorBaseC
import Derived.Test.YtcimkoehcdfjdaaGreatDoorManiMath
namespace Go.Proofs.YtcimkoehcdfjdaaGreatDoor
open Go.RowKit Go.ChangeShapes Go.WideShapes WireM

def Wide64 (x : Int) : Prop := -9223372036854775808 ≤ x ∧ x ≤ 9223372036854775807
def ShardCells (w : World) (B : Nat) (cs : List Value) (t : ShardM) : Prop :=
 ∃ A n c, cs = [.int .i64 t.num, .int .i64 t.size, .int .u32 (t.sum.toNat : Int), .slice A n c] ∧ n ≤ c ∧ c ≤ maxLen ∧ n ≤ 17592186044416 ∧ IntsAt w B A n t.dead ∧ Wide64 t.num ∧ Wide64 t.size ∧ ∀ x ∈ t.dead, Wide64 x
def ShardsAt (w : World) (B : Nat) (A : Option Addr) (n : Nat) (ts : List ShardM) : Prop := SliceBy w B 4 A n (ShardCells w B) ts

section
variable {w w' : World} {B B' n : Nat} {A : Option Addr} {ts : List ShardM}
theorem ShardCells.keep {cs : List Value} {t : ShardM} (h : ShardCells w B cs t) (hk : ∀ p : Addr, p.block < B → w'.cell? p = w.cell? p) : ShardCells w' B cs t := by
 obtain ⟨A, n, c, h0, h1, h2, h4, h3, h5⟩ := h
 exact ⟨A, n, c, h0, h1, h2, h4, h3.keep hk, h5⟩
theorem ShardsAt.keep (h : ShardsAt w B A n ts) (hk : ∀ p : Addr, p.block < B → w'.cell? p = w.cell? p) : ShardsAt w' B A n ts := SliceBy.keep h hk fun _ _ h => h.keep hk
theorem ShardsAt.below (h : ShardsAt w B A n ts) (hb : Below B w w') : ShardsAt w' B A n ts := h.keep fun _ hp => hb.cell hp
theorem ShardsAt.more (h : ShardsAt w B A n ts) (hB : B ≤ B') : ShardsAt w B' A n ts :=
 ⟨h.1, fun hn => by
  obtain ⟨b, off, e, hb, hc⟩ := h.2 hn
  refine ⟨b, off, e, by omega, fun j a hj => ?_⟩
  obtain ⟨cs, h1, ⟨A', n', c', h2, h3, h4, h7, h5, h8⟩, h6⟩ := hc j a hj
  exact ⟨cs, h1, ⟨A', n', c', h2, h3, h4, h7, h5.more hB, h8⟩, h6⟩⟩
theorem ShardsAt.len (h : ShardsAt w B A n ts) : ts.length = n := h.1
theorem ShardsAt.at_ (h : ShardsAt w B A n ts) {k : Nat} {t : ShardM} (hk : ts[k]? = some t) : ∃ b off A1 n1 c1, A = some ⟨b, off, none⟩ ∧ b < B ∧
  w.cell? ⟨b, off + k * 4, none⟩ = some (.int .i64 t.num) ∧ w.cell? ⟨b, off + k * 4 + 1, none⟩ = some (.int .i64 t.size) ∧ w.cell? ⟨b, off + k * 4 + 2, none⟩ = some (.int .u32 (t.sum.toNat : Int)) ∧ w.cell? ⟨b, off + k * 4 + 3, none⟩ = some (.slice A1 n1 c1) ∧ n1 ≤ c1 ∧ c1 ≤ maxLen ∧ n1 ≤ 17592186044416 ∧ IntsAt w B A1 n1 t.dead ∧ Wide64 t.num ∧ Wide64 t.size ∧ ∀ x ∈ t.dead, Wide64 x := by
 have hn : 0 < n := by
  have h1 := (List.getElem?_eq_some_iff.1 hk).1
  have h2 := h.1
  omega
 obtain ⟨b, off, e, hb, hc⟩ := h.2 hn
 obtain ⟨cs, hl, ⟨A1, n1, c1, rfl, h1, h2, h4, h3⟩, hcs⟩ := hc k t hk
 exact ⟨b, off, A1, n1, c1, e, hb, hcs 0 _ rfl, hcs 1 _ rfl, hcs 2 _ rfl, hcs 3 _ rfl, h1, h2, h4, h3⟩
end

theorem riseB_cons {hi a x : Int} {l : List Int} : riseB hi a (x :: l) = (decide (a ≤ x) && decide (x ≤ hi) && riseB hi (x + 1) l) := rfl

set_option maxRecDepth 100000 in
set_option maxHeartbeats 1000000 in
theorem rising_any (w : World) (B : Nat) (fr hi : Int) (A : Option Addr) (n c : Nat) (l : List Int) (hR : IntsAt w B A n l) (hn : n ≤ maxLen) (hf : 0 ≤ fr) (hf2 : fr ≤ 1099511627777) (hh : hi ≤ 1099511627776) :
  Calls Tryz.prog 37 #[.int .i64 fr, .int .i64 hi, .slice A n c] w fun e w' => e = .returned (.bool (riseB hi fr l)) ∧ w = w' := by
 unfold maxLen at hn
 have Hlen := Lib.hid hR.len
 go_enter Tryz.func37, Tryz.ntmps37
 go_wp2
 go_loop [0, 8, 11] (fun v0 _ v11 => ∃ (k : Nat) (f : Int), k ≤ n ∧ v0 = .int .i64 f ∧ v11 = .int .i64 (k : Int) ∧ 0 ≤ f ∧ f ≤ 1099511627777 ∧ Hid (riseB hi fr l = riseB hi f (l.drop k))) (fun _ _ v11 => n - (intOf v11).toNat)
 case atStart => exact ⟨0, fr, by omega, rfl, rfl, hf, hf2, rfl⟩
 case round =>
  obtain ⟨k, f, hk, rfl, rfl, hf0, hf3, hs⟩ := hrel
  by_cases hlt : k < n
  ·obtain ⟨b, off, rfl, hb, hcl⟩ := hR.at_ (by omega)
   obtain ⟨x, hx⟩ : ∃ x, l[k]? = some x := ⟨_, List.getElem?_eq_getElem (by rw [Hlen.out]; exact hlt)⟩
   have hcx := hcl k x hx
   have Hd := Lib.hid (show riseB hi fr l = (decide (f ≤ x) && decide (x ≤ hi) && riseB hi (x + 1) (l.drop (k + 1))) by
    obtain ⟨p1, q1⟩ := List.getElem?_eq_some_iff.1 hx
    rw [hs.out, List.drop_eq_getElem_cons p1, q1, riseB_cons])
   clear hcl hx hs
   by_cases h1 : x < f
   ·have Hr := Lib.hid (show riseB hi fr l = false by rw [Hd.out, decide_eq_false (by omega : ¬ f ≤ x)]; rfl)
    have d1 : decide (x < f) = true := decide_eq_true h1
    clear Hd
    go_wp2
    go_ret
    exact ⟨ret_bool Hr.out.symm, rfl⟩
   ·have d1 : decide (x < f) = false := decide_eq_false h1
    by_cases h2 : hi < x
    ·have Hr := Lib.hid (show riseB hi fr l = false by rw [Hd.out, decide_eq_false (by omega : ¬ x ≤ hi), Bool.and_false]; rfl)
     have d2 : decide (hi < x) = true := decide_eq_true h2
     clear Hd
     go_wp2
     go_ret
     exact ⟨ret_bool Hr.out.symm, rfl⟩
    ·have d2 : decide (hi < x) = false := decide_eq_false h2
     have Hr := Lib.hid (show riseB hi fr l = riseB hi (x + 1) (l.drop (k + 1)) by rw [Hd.out, decide_eq_true (by omega : f ≤ x), decide_eq_true (by omega : x ≤ hi)]; rfl)
     clear Hd
     go_wp2
     go_round
     case rel => exact ⟨k + 1, x + 1, by omega, by go_num, by go_num, by omega, by omega, Hr⟩
     case measure => simp [intOf]; omega
  ·obtain rfl : k = n := by omega
   have Hr := Lib.hid (show riseB hi fr l = true by rw [hs.out, List.drop_eq_nil_of_le (by rw [Hlen.out]; omega)]; rfl)
   clear hs
   go_wp2
   go_ret
   exact ⟨ret_bool Hr.out.symm, rfl⟩
end Go.Proofs.YtcimkoehcdfjdaaGreatDoor

namespace Go.Proofs.YtcimkoehcdfjdaaGreatDoor
open Go.RowKit WireM
set_option linter.unusedVariables false

def sameShardB (a b : ShardM) : Bool := (a.num == b.num) && ((a.size == b.size) && ((a.sum == b.sum) && sameL a.dead b.dead))
theorem shard_range {w : World} {b off k : Nat} {t : ShardM} {A1 : Option Addr} {n1 c1 : Nat} (h0 : w.cell? ⟨b, off + k * 4, none⟩ = some (.int .i64 t.num)) (h1 : w.cell? ⟨b, off + k * 4 + 1, none⟩ = some (.int .i64 t.size)) (h2 : w.cell? ⟨b, off + k * 4 + 2, none⟩ = some (.int .u32 (t.sum.toNat : Int))) (h3 : w.cell? ⟨b, off + k * 4 + 3, none⟩ = some (.slice A1 n1 c1)) : w.rangeAt b (off + k * 4) [.int .i64 t.num, .int .i64 t.size, .int .u32 (t.sum.toNat : Int), .slice A1 n1 c1] := fun j v hj => by
 match j, hj with
 | 0, hj => cases hj; exact h0
 | 1, hj => cases hj; exact h1
 | 2, hj => cases hj; exact h2
 | 3, hj => cases hj; exact h3
set_option maxRecDepth 100000 in
set_option maxHeartbeats 1000000 in
theorem SameShardRef_any (w : World) (B : Nat) (a b : ShardM) (A : Option Addr) (n c : Nat) (A2 : Option Addr) (n2 c2 : Nat) (hR : IntsAt w B A n a.dead) (hR2 : IntsAt w B A2 n2 b.dead) (hB : B ≤ w.heap.size) (hn : n ≤ maxLen) (hn2 : n2 ≤ maxLen) (r : Bool) (Hr : Hid (r = sameShardB a b)) :
  Calls Tryz.prog 69 #[.agg #[.int .i64 a.num, .int .i64 a.size, .int .u32 (a.sum.toNat : Int), .slice A n c], .agg #[.int .i64 b.num, .int .i64 b.size, .int .u32 (b.sum.toNat : Int), .slice A2 n2 c2]] w fun e w' => e = .returned (.bool r) ∧ Grow w w' := by
 obtain ⟨w1, hw1⟩ : ∃ w1, ((w.alloc (.cells #[.int .i64 a.num, .int .i64 a.size, .int .u32 (a.sum.toNat : Int), .slice A n c] 52)).alloc (.cells #[.int .i64 b.num, .int .i64 b.size, .int .u32 (b.sum.toNat : Int), .slice A2 n2 c2] 52)) = w1 := ⟨_, rfl⟩
 have hG : Grow w w1 := by rw [← hw1]; exact (Grow.alloc _ _).trans (Grow.alloc _ _)
 have h1 : IntsAt w1 B A n a.dead := ReadsAt.keep hR fun p hp => hG.cell (Nat.lt_of_lt_of_le hp hB)
 have h2 : IntsAt w1 B A2 n2 b.dead := ReadsAt.keep hR2 fun p hp => hG.cell (Nat.lt_of_lt_of_le hp hB)
 subst hw1
 have H1 := Lib.hid h1
 have H2 := Lib.hid h2
 clear h1 h2 hR hR2
 by_cases ht : a.num = b.num
 ·have d1 : (a.num == b.num) = true := by rw [ht]; simp
  by_cases hs : a.size = b.size
  ·have d2 : (a.size == b.size) = true := by rw [hs]; simp
   by_cases hu : a.sum = b.sum
   ·have d3 : ((a.sum.toNat : Int) == (b.sum.toNat : Int)) = true := by rw [hu]; simp
    have Hr2 := Lib.hid (show r = sameL a.dead b.dead by rw [Hr.out, sameShardB, ht, hs, hu]; simp)
    clear ht hs hu
    go_enter Tryz.func69, Tryz.ntmps69
    go_wp2_with (go_at_call 117; refine (SameInts_any _ B B A A2 n c n2 c2 a.dead b.dead H1.out H2.out hn hn2).mono ?_; rintro e w3 ⟨rfl, q, rfl⟩)
    go_ret
    exact ⟨ret_bool Hr2.out.symm, hG.trans (Grow.drewN _ _)⟩
   ·have d3 : ((a.sum.toNat : Int) == (b.sum.toNat : Int)) = false := by rw [beq_eq_false_iff_ne]; intro h; exact hu (BitVec.eq_of_toNat_eq (by omega))
    have Hr2 := Lib.hid (show r = false by rw [Hr.out, sameShardB, beq_eq_false_iff_ne.2 hu]; simp)
    clear ht hs hu
    go_enter Tryz.func69, Tryz.ntmps69
    go_wp2
    go_ret
    exact ⟨ret_bool Hr2.out.symm, hG⟩
  ·have d2 : (a.size == b.size) = false := by rw [beq_eq_false_iff_ne]; exact hs
   have Hr2 := Lib.hid (show r = false by rw [Hr.out, sameShardB, d2]; simp)
   clear ht hs
   go_enter Tryz.func69, Tryz.ntmps69
   go_wp2
   go_ret
   exact ⟨ret_bool Hr2.out.symm, hG⟩
 ·have d1 : (a.num == b.num) = false := by rw [beq_eq_false_iff_ne]; exact ht
  have Hr2 := Lib.hid (show r = false by rw [Hr.out, sameShardB, d1, Bool.false_and])
  clear ht
  go_enter Tryz.func69, Tryz.ntmps69
  go_wp2
  go_ret
  exact ⟨ret_bool Hr2.out.symm, hG⟩

def sameShardsB : List ShardM → List ShardM → Bool
 | [], [] => true
 | a :: l, b :: m => sameShardB a b && sameShardsB l m
 | _, _ => false
theorem sameShardsB_len : ∀ {l m : List ShardM}, l.length ≠ m.length → sameShardsB l m = false
 | [], [], h => absurd rfl h
 | [], _ :: _, _ => rfl
 | _ :: _, [], _ => rfl
 | a :: l, b :: m, h => by
  rw [sameShardsB, sameShardsB_len (l := l) (m := m) (fun e => h (by simp [e])), Bool.and_false]
theorem sameShardsB_drop {l m : List ShardM} {k : Nat} {a b : ShardM} (h1 : l[k]? = some a) (h2 : m[k]? = some b) : sameShardsB (l.drop k) (m.drop k) = (sameShardB a b && sameShardsB (l.drop (k + 1)) (m.drop (k + 1))) := by
 obtain ⟨p1, q1⟩ := List.getElem?_eq_some_iff.1 h1
 obtain ⟨p2, q2⟩ := List.getElem?_eq_some_iff.1 h2
 rw [List.drop_eq_getElem_cons p1, List.drop_eq_getElem_cons p2, q1, q2, sameShardsB]

set_option maxRecDepth 100000 in
set_option maxHeartbeats 4000000 in
theorem SameShardRefs_any (w : World) (A : Option Addr) (n c : Nat) (A2 : Option Addr) (n2 c2 : Nat) (l m : List ShardM) (hT : ShardsAt w w.heap.size A n l) (hT2 : ShardsAt w w.heap.size A2 n2 m) (hn : n ≤ 4398046510976) (hn2 : n2 ≤ 4398046510976) :
  Calls Tryz.prog 57 #[.slice A n c, .slice A2 n2 c2] w fun e w' => e = .returned (.bool (sameShardsB l m)) ∧ Grow w w' := by
 have hl1 := hT.len
 have hl2 := hT2.len
 by_cases hnn : n = n2
 ·subst hnn
  have Hl1 := Lib.hid hl1
  have Hl2 := Lib.hid hl2
  have hnb : ((n : Int) == (n : Int)) = true := by simp
  clear hl1 hl2
  go_enter Tryz.func57, Tryz.ntmps57
  go_wp2
  go_loopw [5] (fun v5 wr => ∃ k : Nat, k ≤ n ∧ v5 = .int .i64 (k : Int) ∧ Hid (sameShardsB l m = sameShardsB (l.drop k) (m.drop k)) ∧ Hid (Grow w wr)) (fun v5 _ => n - (intOf v5).toNat)
  case atStart => exact ⟨0, by omega, rfl, by simp [Hid], Grow.refl w⟩
  case round =>
   obtain ⟨k, hk, rfl, hs, hg⟩ := hrel
   by_cases hlt : k < n
   ·obtain ⟨a, ha⟩ : ∃ a, l[k]? = some a := ⟨_, List.getElem?_eq_getElem (by rw [Hl1.out]; exact hlt)⟩
    obtain ⟨b, hb⟩ : ∃ b, m[k]? = some b := ⟨_, List.getElem?_eq_getElem (by rw [Hl2.out]; exact hlt)⟩
    have hgz := hg.out.size
    obtain ⟨b1, off1, A1, n1, c1, rfl, hb1, hc0, hc1, hc2, hc3, hnc1, -, hcm1, hr1, -⟩ := (hT.below hg.out).at_ ha
    obtain ⟨b2, off2, A2', n2', c2', rfl, hb2, hd0, hd1, hd2, hd3, hnc2, -, hcm2, hr2, -⟩ := (hT2.below hg.out).at_ hb
    have Hm1 := Lib.hid (shard_range hc0 hc1 hc2 hc3)
    have Hm2 := Lib.hid (shard_range hd0 hd1 hd2 hd3)
    have hz1 : b1 < wr.heap.size := by omega
    have hz2 : b2 < wr.heap.size := by omega
    obtain ⟨r, hr⟩ : ∃ r, r = sameShardB a b := ⟨_, rfl⟩
    have Hr := Lib.hid hr
    have Hdr := Lib.hid (show sameShardsB l m = (r && sameShardsB (l.drop (k + 1)) (m.drop (k + 1))) by rw [hs.out, sameShardsB_drop ha hb, hr])
    have Hr1 := Lib.hid (show ∀ W, Grow wr W → IntsAt W w.heap.size A1 n1 a.dead from fun W h => ReadsAt.keep hr1 fun p hp => h.cell (Nat.lt_of_lt_of_le hp hgz))
    have Hr2 := Lib.hid (show ∀ W, Grow wr W → IntsAt W w.heap.size A2' n2' b.dead from fun W h => ReadsAt.keep hr2 fun p hp => h.cell (Nat.lt_of_lt_of_le hp hgz))
    clear ha hb hc0 hc1 hc2 hc3 hd0 hd1 hd2 hd3 hr hr1 hr2 hs
    go_upto_region 6 with (fail)
    go_cut [26] from 17 to 26 (fun v26 wx => v26 = .bool (!r) ∧ Grow wr wx)
    case first Jx Kx hJx hMx =>
     refine wp_region_facts (by kernel_rfl) (Facts [.is (.slice (some ⟨b1, off1, none⟩) n c), .is (.int .i64 (k : Int)), .is (.pointer (some ⟨b1, off1 + k * 4, none⟩)), .is (.agg #[.int .i64 a.num, .int .i64 a.size, .int .u32 (a.sum.toNat : Int), .slice A1 n1 c1]), .is (.slice (some ⟨b2, off2, none⟩) n c2), .is (.int .i64 (k : Int)), .is (.pointer (some ⟨b2, off2 + k * 4, none⟩)), .is (.agg #[.int .i64 b.num, .int .i64 b.size, .int .u32 (b.sum.toNat : Int), .slice A2' n2' c2']), .is (.bool r), .is (.bool (!r))]) (Facts.mono _) (by kernel_rfl) ?_ ?_
     ·refine ⟨?_, ?_, ?_, ?_, ?_, ?_, ?_, ?_, ?_, ?_, trivial⟩
      ·refine stepOf_wanted (fun _ _ _ _ _ => wanted_none rfl) ?_
       intro us w3 a' ha hg hd K hK
       have q0 : a'.tmps[0]? = some (.slice (some ⟨b1, off1, none⟩) n c) := by rw [ha.out]; kernel_rfl
       exact sV hK rfl
      ·refine stepOf_wanted (fun _ _ _ _ _ => wanted_none rfl) ?_
       intro us w3 a' ha hg hd K hK
       have q5 : a'.tmps[5]? = some (.int .i64 (k : Int)) := by rw [ha.out]; kernel_rfl
       exact sV hK rfl
      ·refine stepOf_wanted (fun _ _ _ _ _ => wanted_none rfl) ?_
       intro us w3 a' ha hg hd K hK
       obtain ⟨d0, d1, _⟩ := hd
       have q17 : a'.tmps[17]? = some (us 0) := by rw [ha.out]; kernel_rfl
       rw [show us 0 = .slice (some ⟨b1, off1, none⟩) n c from d0] at q17
       have q18 : a'.tmps[18]? = some (us 1) := by rw [ha.out]; kernel_rfl
       rw [show us 1 = .int .i64 (k : Int) from d1] at q18
       refine step_value (v := .pointer (some ⟨b1, off1 + k * 4, none⟩)) (w2 := w3) ?_ (hK _ _ (Grow.refl _) rfl)
       go_simp
       (try (intro h; omega))
      ·refine stepOf_wanted (fun _ _ _ _ _ => wanted_none rfl) ?_
       intro us w3 a' ha hg hd K hK
       obtain ⟨d2, _⟩ := hd
       have q19 : a'.tmps[19]? = some (us 2) := by rw [ha.out]; kernel_rfl
       rw [show us 2 = .pointer (some ⟨b1, off1 + k * 4, none⟩) from d2] at q19
       exact wp_load_mid 52 (.tmp 19) rfl b1 (off1 + k * 4) (eval_tmp q19) _ _ (fun j v hj => (hg.cell (p := ⟨b1, off1 + k * 4 + j, none⟩) hz1).trans (Hm1.out j v hj)) Tryz.underlying52 rfl (by kernel_rfl) (hK _ _ (Grow.refl _) rfl)
      ·refine stepOf_wanted (fun _ _ _ _ _ => wanted_none rfl) ?_
       intro us w3 a' ha hg hd K hK
       have q1 : a'.tmps[1]? = some (.slice (some ⟨b2, off2, none⟩) n c2) := by rw [ha.out]; kernel_rfl
       exact sV hK rfl
      ·refine stepOf_wanted (fun _ _ _ _ _ => wanted_none rfl) ?_
       intro us w3 a' ha hg hd K hK
       have q5 : a'.tmps[5]? = some (.int .i64 (k : Int)) := by rw [ha.out]; kernel_rfl
       exact sV hK rfl
      ·refine stepOf_wanted (fun _ _ _ _ _ => wanted_none rfl) ?_
       intro us w3 a' ha hg hd K hK
       obtain ⟨d4, d5, _⟩ := hd
       have q21 : a'.tmps[21]? = some (us 4) := by rw [ha.out]; kernel_rfl
       rw [show us 4 = .slice (some ⟨b2, off2, none⟩) n c2 from d4] at q21
       have q22 : a'.tmps[22]? = some (us 5) := by rw [ha.out]; kernel_rfl
       rw [show us 5 = .int .i64 (k : Int) from d5] at q22
       refine step_value (v := .pointer (some ⟨b2, off2 + k * 4, none⟩)) (w2 := w3) ?_ (hK _ _ (Grow.refl _) rfl)
       go_simp
       (try (intro h; omega))
      ·refine stepOf_wanted (fun _ _ _ _ _ => wanted_none rfl) ?_
       intro us w3 a' ha hg hd K hK
       obtain ⟨d6, _⟩ := hd
       have q23 : a'.tmps[23]? = some (us 6) := by rw [ha.out]; kernel_rfl
       rw [show us 6 = .pointer (some ⟨b2, off2 + k * 4, none⟩) from d6] at q23
       exact wp_load_mid 52 (.tmp 23) rfl b2 (off2 + k * 4) (eval_tmp q23) _ _ (fun j v hj => (hg.cell (p := ⟨b2, off2 + k * 4 + j, none⟩) hz2).trans (Hm2.out j v hj)) Tryz.underlying52 rfl (by kernel_rfl) (hK _ _ (Grow.refl _) rfl)
      ·refine stepOf_wanted (fun _ _ _ _ _ => wanted_none rfl) ?_
       intro us w3 a' ha hg hd K hK
       obtain ⟨d3, d7, _⟩ := hd
       have q20 : a'.tmps[20]? = some (us 3) := by rw [ha.out]; kernel_rfl
       rw [show us 3 = .agg #[.int .i64 a.num, .int .i64 a.size, .int .u32 (a.sum.toNat : Int), .slice A1 n1 c1] from d3] at q20
       have q24 : a'.tmps[24]? = some (us 7) := by rw [ha.out]; kernel_rfl
       rw [show us 7 = .agg #[.int .i64 b.num, .int .i64 b.size, .int .u32 (b.sum.toNat : Int), .slice A2' n2' c2'] from d7] at q24
       refine step_call (f := 69) (args := #[.agg #[.int .i64 a.num, .int .i64 a.size, .int .u32 (a.sum.toNat : Int), .slice A1 n1 c1], .agg #[.int .i64 b.num, .int .i64 b.size, .int .u32 (b.sum.toNat : Int), .slice A2' n2' c2']]) (by go_simp) ?_
       refine (SameShardRef_any w3 w.heap.size a b A1 n1 c1 A2' n2' c2' (Hr1.out w3 hg) (Hr2.out w3 hg) (Nat.le_trans hgz hg.size) (by simp only [maxLen]; omega) (by simp only [maxLen]; omega) r Hr).mono ?_
       rintro e w4 ⟨rfl, hg4⟩
       exact ⟨_, rfl, hK _ _ hg4 rfl⟩
      ·refine stepOf_wanted (fun _ _ _ _ _ => wanted_none rfl) ?_
       intro us w3 a' ha hg hd K hK
       obtain ⟨d8, _⟩ := hd
       have q25 : a'.tmps[25]? = some (us 8) := by rw [ha.out]; kernel_rfl
       rw [show us 8 = .bool r from d8] at q25
       exact sV (v := .bool (!r)) hK rfl
     ·intro us w3 hg3 hf
      have h9 : us 9 = .bool (!r) := hf 9 (by decide)
      exact hMx _ _ (Met.intro (hJx _ _ ⟨us 0, us 1, us 2, us 3, us 4, us 5, us 6, us 7, us 8, us 9, ⟨h9, hg3⟩, by kernel_rfl⟩))
    case rest =>
     obtain ⟨rfl, hgx⟩ := hcut
     have HG := Lib.hid (hg.out.trans hgx)
     clear hgx hg
     cases r with
     | true =>
      have Hs2 := Lib.hid (show sameShardsB l m = sameShardsB (l.drop (k + 1)) (m.drop (k + 1)) by rw [Hdr.out, Bool.true_and])
      go_wp2
      go_roundw
      case rel => exact ⟨k + 1, by omega, by go_num, Hs2, HG⟩
      case measure => simp [intOf]; omega
     | false =>
      have Hs2 := Lib.hid (show sameShardsB l m = false by rw [Hdr.out, Bool.false_and])
      go_wp2
      go_ret
      exact ⟨ret_bool Hs2.out.symm, HG.out⟩
   ·obtain rfl : k = n := by omega
    have hfin := Lib.hid (show sameShardsB l m = true by rw [hs.out, List.drop_eq_nil_iff.2 (by rw [Hl1.out]; exact Nat.le_refl _), List.drop_eq_nil_iff.2 (by rw [Hl2.out]; exact Nat.le_refl _)]; rfl)
    go_wp2
    go_ret
    exact ⟨ret_bool hfin.out.symm, hg.out⟩
 ·have hnb : ((n : Int) == (n2 : Int)) = false := by rw [beq_eq_false_iff_ne]; omega
  have hfin := Lib.hid (sameShardsB_len (l := l) (m := m) (by rw [hl1, hl2]; exact hnn))
  clear hnn hl1 hl2
  go_enter Tryz.func57, Tryz.ntmps57
  go_wp2
  go_ret
  exact ⟨ret_bool hfin.out.symm, Grow.refl w⟩

theorem sameShardB_iff {a b : ShardM} : sameShardB a b = true ↔ a = b := by
 cases a; cases b
 simp [sameShardB, sameL]
theorem sameShardsB_iff : ∀ {l m : List ShardM}, sameShardsB l m = true ↔ l = m
 | [], [] => by simp [sameShardsB]
 | [], _ :: _ => by simp [sameShardsB]
 | _ :: _, [] => by simp [sameShardsB]
 | a :: l, b :: m => by rw [sameShardsB, Bool.and_eq_true, sameShardB_iff, sameShardsB_iff, List.cons.injEq]
def sameManiB (a b : ManiM) : Bool := (a.gen == b.gen) && sameShardsB a.shards b.shards
theorem sameManiB_iff {a b : ManiM} : sameManiB a b = true ↔ a = b := by
 cases a; cases b
 simp [sameManiB, sameShardsB_iff]
structure ManiAt (w : World) (B : Nat) (v : Value) (m : ManiM) : Prop where
 val : ∃ A n c, v = .agg #[.int .i64 m.gen, .slice A n c] ∧ n ≤ c ∧ c ≤ maxLen ∧ n ≤ 4398046510976 ∧ ShardsAt w B A n m.shards
 gen : Wide64 m.gen
section
variable {w w' : World} {B B' : Nat} {v : Value} {m : ManiM}
theorem ManiAt.keep (h : ManiAt w B v m) (hk : ∀ p : Addr, p.block < B → w'.cell? p = w.cell? p) : ManiAt w' B v m := by
 obtain ⟨⟨A, n, c, h1, h2, h3, h4, h5⟩, hg⟩ := h
 exact ⟨⟨A, n, c, h1, h2, h3, h4, h5.keep hk⟩, hg⟩
theorem ManiAt.more (h : ManiAt w B v m) (hB : B ≤ B') : ManiAt w B' v m := by
 obtain ⟨⟨A, n, c, h1, h2, h3, h4, h5⟩, hg⟩ := h
 exact ⟨⟨A, n, c, h1, h2, h3, h4, h5.more hB⟩, hg⟩
theorem ManiAt.grow (h : ManiAt w B v m) (hB : B ≤ w.heap.size) (hG : Grow w w') : ManiAt w' w'.heap.size v m := (h.keep fun p hp => hG.cell (Nat.lt_of_lt_of_le hp hB)).more (Nat.le_trans hB hG.size)
end
set_option maxRecDepth 100000 in
set_option maxHeartbeats 1000000 in
theorem SameManifest_any (w : World) (v1 v2 : Value) (a b : ManiM) (h1 : ManiAt w w.heap.size v1 a) (h2 : ManiAt w w.heap.size v2 b) (r : Bool) (Hr : Hid (r = sameManiB a b)) :
  Calls Tryz.prog 27 #[v1, v2] w fun e w' => e = .returned (.bool r) ∧ Grow w w' := by
 obtain ⟨⟨A, n, c, rfl, -, -, hn, h1⟩, -⟩ := h1
 obtain ⟨⟨A2, n2, c2, rfl, -, -, hn2, h2⟩, -⟩ := h2
 obtain ⟨w1, hw1⟩ : ∃ w1, ((w.alloc (.cells #[.int .i64 a.gen, .slice A n c] 24)).alloc (.cells #[.int .i64 b.gen, .slice A2 n2 c2] 24)) = w1 := ⟨_, rfl⟩
 have hG : Grow w w1 := by rw [← hw1]; exact (Grow.alloc _ _).trans (Grow.alloc _ _)
 have H1 := Lib.hid (show ShardsAt w1 w1.heap.size A n a.shards from (h1.keep fun p hp => hG.cell hp).more hG.size)
 have H2 := Lib.hid (show ShardsAt w1 w1.heap.size A2 n2 b.shards from (h2.keep fun p hp => hG.cell hp).more hG.size)
 subst hw1
 clear h1 h2
 by_cases ht : a.gen = b.gen
 ·have d1 : (a.gen == b.gen) = true := by rw [ht]; simp
  have Hr2 := Lib.hid (show r = sameShardsB a.shards b.shards by rw [Hr.out, sameManiB, ht]; simp)
  clear ht
  go_enter Tryz.func27, Tryz.ntmps27
  go_wp2_with (go_at_call 57; refine (SameShardRefs_any _ A n c A2 n2 c2 a.shards b.shards H1.out H2.out (by omega) (by omega)).mono ?_; rintro e w3 ⟨rfl, hG3⟩)
  go_ret
  exact ⟨ret_bool Hr2.out.symm, hG.trans hG3⟩
 ·have d1 : (a.gen == b.gen) = false := by rw [beq_eq_false_iff_ne]; exact ht
  have Hr2 := Lib.hid (show r = false by rw [Hr.out, sameManiB, d1, Bool.false_and])
  clear ht
  go_enter Tryz.func27, Tryz.ntmps27
  go_wp2
  go_ret
  exact ⟨ret_bool Hr2.out.symm, hG⟩
end Go.Proofs.YtcimkoehcdfjdaaGreatDoor


namespace Go.Proofs.YtcimkoehcdfjdaaGreatDoor
open Go.RowKit WireM
set_option linter.unusedVariables false

theorem head_no {m : ManiM} (h : headRight m = false) : maniRight m = false := by rw [maniRight, h]; rfl
theorem shard_no {m : ManiM} {s : ShardM} {k : Nat} (hk : m.shards[k]? = some s) (h : shardRight s = false) : maniRight m = false := by
 have : m.shards.all shardRight = false := by
  rw [List.all_eq_false]
  exact ⟨s, List.mem_of_getElem? hk, by rw [h]; simp⟩
 rw [maniRight, this, Bool.and_false, Bool.false_and]
theorem all_right {ss : List ShardM} {k : Nat} {s : ShardM} (h : ∀ x ∈ ss.take k, shardRight x = true) (hk : ss[k]? = some s) (hs : shardRight s = true) : ∀ x ∈ ss.take (k + 1), shardRight x = true := fun x hx => by
 rw [List.take_add_one, hk] at hx
 rcases List.mem_append.1 hx with hx | hx
 ·exact h x hx
 ·obtain rfl : x = s := by simpa using hx
  exact hs
theorem nums_succ {ss : List ShardM} {k : Nat} {s : ShardM} (hk : ss[k]? = some s) : (ss.take (k + 1)).map (fun s => i64v s.num) = (ss.take k).map (fun s => i64v s.num) ++ [.int .i64 s.num] := by
 rw [List.take_add_one, hk, List.map_append]
 rfl

set_option maxRecDepth 100000 in
set_option maxHeartbeats 4000000 in
theorem Right_any (w : World) (v : Value) (m : ManiM) (hM : ManiAt w w.heap.size v m) (r : Bool) (Hr : Hid (r = maniRight m)) :
  Calls Tryz.prog 12 #[v] w fun e w' => e = .returned (.bool r) ∧ Grow w w' := by
 have intsTy : AppTy Tryz.prog 49 3 (.int .i64 0) 1 8 := AppTy.mk' Tryz.underlying49 (by kernel_rfl) rfl (by decide)
 obtain ⟨⟨A, n, c, rfl, hnc, hcm, hn, hT⟩, hg1, hg2⟩ := hM
 obtain ⟨w1, hw1⟩ : ∃ w1, w.alloc (.cells #[.int .i64 m.gen, .slice A n c] 24) = w1 := ⟨_, rfl⟩
 have hG : Grow w w1 := by rw [← hw1]; exact Grow.alloc _ _
 have hb1 : Blk w1 w.heap.size 24 #[.int .i64 m.gen, .slice A n c] := by rw [← hw1]; exact Blk.new _ _ _
 have HT1 := Lib.hid (show ShardsAt w1 w1.heap.size A n m.shards from (hT.keep fun p hp => hG.cell hp).more hG.size)
 have Hlen := Lib.hid hT.len
 have hc0 := hb1.cell 0
 have hc1 := hb1.cell 1
 have hgz := hb1.lt
 clear hT
 by_cases h1 : m.gen < 0
 ·have Hr2 := Lib.hid (show r = false by rw [Hr.out]; exact head_no (by simp only [headRight]; rw [decide_eq_false (by omega : ¬ 0 ≤ m.gen)]; rfl))
  have d1 : decide (m.gen < 0) = true := decide_eq_true h1
  go_enter Tryz.func12, Tryz.ntmps12
  go_wp2
  go_ret
  exact ⟨ret_bool Hr2.out.symm, hG⟩
 ·have d1 : decide (m.gen < 0) = false := decide_eq_false h1
  by_cases h2 : 1099511627776 < m.gen
  ·have Hr2 := Lib.hid (show r = false by rw [Hr.out]; exact head_no (by simp only [headRight]; rw [decide_eq_false (by omega : ¬ m.gen ≤ 1099511627776), Bool.and_false]; rfl))
   have d2 : decide (1099511627776 < m.gen) = true := decide_eq_true h2
   go_enter Tryz.func12, Tryz.ntmps12
   go_wp2
   go_ret
   exact ⟨ret_bool Hr2.out.symm, hG⟩
  ·have d2 : decide (1099511627776 < m.gen) = false := decide_eq_false h2
   by_cases h3 : 40 < n
   ·have Hr2 := Lib.hid (show r = false by rw [Hr.out]; exact head_no (by simp only [headRight]; rw [decide_eq_false (by rw [Hlen.out]; omega : ¬ m.shards.length ≤ 40), Bool.and_false]))
    have d3 : decide ((40 : Int) < (n : Int)) = true := decide_eq_true (by omega)
    go_enter Tryz.func12, Tryz.ntmps12
    go_wp2
    go_ret
    exact ⟨ret_bool Hr2.out.symm, hG⟩
   ·have d3 : decide ((40 : Int) < (n : Int)) = false := decide_eq_false (by omega)
    have Hhead := Lib.hid (show headRight m = true by
     simp only [headRight, Bool.and_eq_true, decide_eq_true_eq]
     rw [Hlen.out]
     exact ⟨⟨by omega, by omega⟩, by omega⟩)
    go_enter Tryz.func12, Tryz.ntmps12
    go_wp2
    clear hw1
    go_loopw [3, 5, 23] (fun v3 _ v23 wr => ∃ k : Nat, k ≤ n ∧ v23 = .int .i64 (k : Int) ∧ Hid (wr.ownsRow w1.heap.size 3 1 v3 k ((m.shards.take k).map fun s => i64v s.num)) ∧ Hid (∀ s ∈ m.shards.take k, shardRight s = true) ∧ Hid (Grow w1 wr)) (fun _ _ v23 _ => n - (intOf v23).toNat)
    case atStart => exact ⟨0, by omega, rfl, World.ownsRow_nil _ _ _ _, by simp [Hid], Grow.refl w1⟩
    case round =>
     obtain ⟨k, hk, rfl, ho, hall, hgr⟩ := hrel
     have hzr := hgr.out.size
     have hbr := hb1.below hgr.out hgz
     have hr0 := hbr.cell 0
     have hr1 := hbr.cell 1
     by_cases hlt : k < n
     ·obtain ⟨s, hs⟩ : ∃ s, m.shards[k]? = some s := ⟨_, List.getElem?_eq_getElem (by rw [Hlen.out]; exact hlt)⟩
      obtain ⟨b, off, A1, n1, c1, rfl, hb, p0, p1, p2, p3, hnc1, hcm1, hn1, hI, -⟩ := (HT1.out.keep fun p hp => hgr.out.cell hp).at_ hs
      have Hm := Lib.hid (shard_range p0 p1 p2 p3)
      obtain ⟨w2, hw2⟩ : ∃ w2, wr.alloc (.cells #[.int .i64 s.num, .int .i64 s.size, .int .u32 (s.sum.toNat : Int), .slice A1 n1 c1] 52) = w2 := ⟨_, rfl⟩
      have hG2 : Grow wr w2 := by rw [← hw2]; exact Grow.alloc _ _
      have hb2 : Blk w2 wr.heap.size 52 #[.int .i64 s.num, .int .i64 s.size, .int .u32 (s.sum.toNat : Int), .slice A1 n1 c1] := by rw [← hw2]; exact Blk.new _ _ _
      have HI := Lib.hid (show IntsAt w2 w1.heap.size A1 n1 s.dead from hI.keep fun p hp => hG2.cell (Nat.lt_of_lt_of_le hp hzr))
      have Hs := Lib.hid hs
      have q0 := hb2.cell 0
      have q1 := hb2.cell 1
      have q3 := hb2.cell 3
      have hz2 := hG2.size
      clear hs p0 p1 p2 p3 hI hr0 hr1
      by_cases e1 : s.size < 0
      ·have Hr2 := Lib.hid (show r = false by rw [Hr.out]; exact shard_no Hs.out (by simp only [shardRight]; rw [decide_eq_false (by omega : ¬ 0 ≤ s.size)]; rfl))
       have f1 : decide (s.size < 0) = true := decide_eq_true e1
       go_wp2_with (refine wpList_load_mid rfl 52 (.tmp 25) rfl b (off + k * 4) rfl _ _ Hm.out Tryz.underlying52 rfl (by kernel_rfl) ?_)
       go_ret
       exact ⟨ret_bool Hr2.out.symm, (hG.trans hgr.out).trans hG2⟩
      ·have f1 : decide (s.size < 0) = false := decide_eq_false e1
       by_cases e2 : 67108864 < s.size
       ·have Hr2 := Lib.hid (show r = false by rw [Hr.out]; exact shard_no Hs.out (by simp only [shardRight]; rw [decide_eq_false (by omega : ¬ s.size ≤ 67108864), Bool.and_false]; rfl))
        have f2 : decide (67108864 < s.size) = true := decide_eq_true e2
        go_wp2_with (refine wpList_load_mid rfl 52 (.tmp 25) rfl b (off + k * 4) rfl _ _ Hm.out Tryz.underlying52 rfl (by kernel_rfl) ?_)
        go_ret
        exact ⟨ret_bool Hr2.out.symm, (hG.trans hgr.out).trans hG2⟩
       ·have f2 : decide (67108864 < s.size) = false := decide_eq_false e2
        have Hrise := Lib.hid (rising_any w2 w1.heap.size 0 3999 A1 n1 c1 s.dead HI.out (by omega) (by omega) (by omega) (by omega))
        by_cases e3 : riseB 3999 0 s.dead = true
        ·rw [e3] at Hrise
         have Hall2 := Lib.hid (all_right hall.out Hs.out (show shardRight s = true by simp only [shardRight]; rw [decide_eq_true (by omega : 0 ≤ s.size), decide_eq_true (by omega : s.size ≤ 67108864), e3]; rfl))
         have Hnum := Lib.hid (nums_succ Hs.out)
         have hGa : Grow w2 (w2.alloc (.cells #[.int .i64 s.num] 3)) := Grow.alloc _ _
         have HO := Lib.hid (show (w2.alloc (.cells #[.int .i64 s.num] 3)).ownsRow w1.heap.size 3 1 u3 k ((m.shards.take k).map fun s => i64v s.num) from own_below ho.out (hG2.trans hGa))
         have hbase : w1.heap.size ≤ (w2.alloc (.cells #[.int .i64 s.num] 3)).heap.size := by have := hGa.size; omega
         clear e3
         go_wp2_with (first | (refine wpList_load_mid rfl 52 (.tmp 25) rfl b (off + k * 4) rfl _ _ Hm.out Tryz.underlying52 rfl (by kernel_rfl) ?_) | (go_at_call 37; refine Hrise.out.mono ?_; rintro e w3 ⟨rfl, rfl⟩) | (at_builtin; refine wpList_append_reads _ rfl (.tmp 41) (.tmp 44) rfl intsTy rfl HO.out rfl (ReadsAt.made1 w2 3 (.int .i64 s.num)) (by simp [Value.oneCell']) (by simp only [maxLen]; omega) (by omega) hbase ?_; intro v' w4 hown2 hgrow hat))
         have Ho2 := Lib.hid (show w4.ownsRow w1.heap.size 3 1 v' (k + 1) ((m.shards.take (k + 1)).map fun s => i64v s.num) by rw [Hnum.out]; exact hown2)
         have Hg2 := Lib.hid (show Grow w1 w4 from Below.grown ((hgr.out.trans hG2).trans hGa) hgrow hbase (fun q hq => (ho.out.lt q hq).1))
         clear hown2 hgrow hat
         go_roundw
         case rel => exact ⟨k + 1, by omega, by go_num, Ho2, Hall2, Hg2⟩
         case measure => simp [intOf]; omega
        ·have e4 : riseB 3999 0 s.dead = false := by simpa using e3
         rw [e4] at Hrise
         have Hr2 := Lib.hid (show r = false by rw [Hr.out]; exact shard_no Hs.out (by simp only [shardRight]; rw [e4, Bool.and_false]))
         go_wp2_with (first | (refine wpList_load_mid rfl 52 (.tmp 25) rfl b (off + k * 4) rfl _ _ Hm.out Tryz.underlying52 rfl (by kernel_rfl) ?_) | (go_at_call 37; refine Hrise.out.mono ?_; rintro e w3 ⟨rfl, rfl⟩))
         go_ret
         exact ⟨ret_bool Hr2.out.symm, (hG.trans hgr.out).trans hG2⟩
     ·obtain rfl : k = n := by omega
      obtain ⟨A1, c1, rfl, -, hcm1, hrd⟩ := own_reads ho.out
      have Hrise := Lib.hid (rising_any wr wr.heap.size 1 m.gen A1 k c1 (m.shards.map (·.num)) (show ReadsAt _ _ _ _ _ _ by
       rw [List.map_map]
       rw [List.take_of_length_le (by rw [Hlen.out]; exact Nat.le_refl _)] at hrd
       exact hrd) (by simp only [maxLen]; omega) (by omega) (by omega) (by omega))
      have Hr2 := Lib.hid (show riseB m.gen 1 (m.shards.map (·.num)) = r by
       have h1 : m.shards.all shardRight = true := by
        rw [List.all_eq_true]
        intro x hx
        exact hall.out x (by rw [List.take_of_length_le (by rw [Hlen.out]; exact Nat.le_refl _)]; exact hx)
       rw [Hr.out, maniRight, Hhead.out, h1]
       rfl)
      rw [Hr2.out] at Hrise
      clear hrd
      go_wp2_with (go_at_call 37; refine Hrise.out.mono ?_; rintro e w3 ⟨rfl, rfl⟩)
      go_ret
      exact ⟨rfl, hG.trans hgr.out⟩
end Go.Proofs.YtcimkoehcdfjdaaGreatDoor
