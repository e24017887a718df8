/-
  The walk of the document's Right (layer 25).
  The walk of the document's Put (layer 25).
-/
import Derived.Laws.Rows
import Derived.Test.YtcimkoehcdfjdaaGreatDoorManiBase
import Derived.Test.YtcimkoehcdfjdaaGreatDoorFGetAll
import Derived.Deep.MidRow
import Derived.Test.YtcimkoehcdfjdaaGreatDoorManiPut
import Derived.Test.YtcimkoehcdfjdaaGreatDoorVAll
import Derived.Test.YtcimkoehcdfjdaaGreatDoorFrameRPut
namespace Go.Proofs.YtcimkoehcdfjdaaGreatDoor
open Go.RowKit WireM
set_option linter.unusedVariables false

def refGo25 (gen : Int) : Int → List ShardM → Bool
 | _, [] => true
 | last, s :: r => (decide (last < s.num) && decide (s.num ≤ gen)) && shardRight s && refGo25 gen s.num r
theorem refGo25_eq (gen : Int) : ∀ (last : Int) (ss : List ShardM), refGo25 gen last ss = (ss.all shardRight && riseB gen (last + 1) (ss.map (·.num)))
 | _, [] => rfl
 | last, s :: r => by
  rw [refGo25, refGo25_eq gen s.num r, List.all_cons, List.map_cons, riseB_cons, show decide (last + 1 ≤ s.num) = decide (last < s.num) from decide_eq_decide.2 (by omega)]
  cases decide (last < s.num) <;> cases decide (s.num ≤ gen) <;> cases shardRight s <;> cases r.all shardRight <;> simp
theorem right_ref (m : ManiM) : maniRight m = (headRight m && refGo25 m.gen 0 m.shards) := by
 rw [maniRight, refGo25_eq, Bool.and_assoc]
 rfl
theorem head_false {m : ManiM} (h : headRight m = false) : maniRight m = false := by rw [right_ref, h]; rfl
set_option maxRecDepth 100000 in
set_option maxHeartbeats 4000000 in
theorem mrRight_any (w : World) (v : Value) (m : ManiM) (hM : ManiAt w w.heap.size v m) (r : Bool) (Hr : Hid (r = maniRight m)) :
  Calls Tryz.prog 13 #[v] w fun e w' => e = .returned (.bool r) ∧ Grow w w' := by
 obtain ⟨⟨A, n, c, rfl, hnc, hcm, hn, hT⟩, hg1, hg2⟩ := hM
 obtain ⟨w1, hw1⟩ : ∃ w1, w.alloc (.cells #[.int .i64 m.gen, .slice A n c] 24) = w1 := ⟨_, rfl⟩
 have hG : Grow w w1 := by rw [← hw1]; exact Grow.alloc _ _
 have hb1 : Blk w1 w.heap.size 24 #[.int .i64 m.gen, .slice A n c] := by rw [← hw1]; exact Blk.new _ _ _
 have HT1 := Lib.hid (show ShardsAt w1 w1.heap.size A n m.shards from (hT.keep fun p hp => hG.cell hp).more hG.size)
 have Hlen := Lib.hid hT.len
 have hc0 := hb1.cell 0
 have hc1 := hb1.cell 1
 clear hT
 by_cases h1 : m.gen < 0
 ·have Hr2 := Lib.hid (show r = false by rw [Hr.out]; exact head_false (by simp only [headRight]; rw [decide_eq_false (by omega : ¬ 0 ≤ m.gen)]; rfl))
  have d1 : decide (m.gen < 0) = true := decide_eq_true h1
  go_enter Tryz.func13, Tryz.ntmps13
  go_wp2
  go_ret
  exact ⟨ret_bool Hr2.out.symm, hG⟩
 ·have d1 : decide (m.gen < 0) = false := decide_eq_false h1
  by_cases h2 : 1099511627776 < m.gen
  ·have Hr2 := Lib.hid (show r = false by rw [Hr.out]; exact head_false (by simp only [headRight]; rw [decide_eq_false (by omega : ¬ m.gen ≤ 1099511627776), Bool.and_false]; rfl))
   have d2 : decide (1099511627776 < m.gen) = true := decide_eq_true h2
   go_enter Tryz.func13, Tryz.ntmps13
   go_wp2
   go_ret
   exact ⟨ret_bool Hr2.out.symm, hG⟩
  ·have d2 : decide (1099511627776 < m.gen) = false := decide_eq_false h2
   by_cases h3 : 40 < n
   ·have Hr2 := Lib.hid (show r = false by rw [Hr.out]; exact head_false (by simp only [headRight]; rw [decide_eq_false (by rw [Hlen.out]; omega : ¬ m.shards.length ≤ 40), Bool.and_false]))
    have d3 : decide ((40 : Int) < (n : Int)) = true := decide_eq_true (by omega)
    go_enter Tryz.func13, Tryz.ntmps13
    go_wp2
    go_ret
    exact ⟨ret_bool Hr2.out.symm, hG⟩
   ·have d3 : decide ((40 : Int) < (n : Int)) = false := decide_eq_false (by omega)
    have hhead : headRight m = true := by
     simp only [headRight]
     rw [decide_eq_true (by omega : 0 ≤ m.gen), decide_eq_true (by omega : m.gen ≤ 1099511627776), decide_eq_true (by rw [Hlen.out]; omega : m.shards.length ≤ 40)]
     rfl
    have Hr3 := Lib.hid (show r = refGo25 m.gen 0 m.shards by rw [Hr.out, right_ref, hhead, Bool.true_and])
    clear hhead
    go_enter Tryz.func13, Tryz.ntmps13
    go_wp2
    go_loopw [3, 4] (fun v3 v4 wr => ∃ (k : Nat) (last : Int), k ≤ n ∧ v3 = .int .i64 last ∧ v4 = .int .i64 (k : Int) ∧ Wide64 last ∧ Hid (r = refGo25 m.gen last (m.shards.drop k)) ∧ Hid (Grow w1 wr)) (fun _ v4 _ => n - (intOf v4).toNat)
    case atStart => exact ⟨0, 0, by omega, rfl, rfl, by unfold Wide64; omega, Hr3, by first | exact Grow.refl _ | assumption⟩
    case round =>
     clear Hr3 Hr hc0 hc1
     obtain ⟨k, last, hk, rfl, rfl, hlw, hrr, HG⟩ := hrel
     have hbr := Grow.blkOf HG.out hb1
     have hc0 := hbr.cell 0
     have hc1 := hbr.cell 1
     by_cases hlt : k < n
     ·obtain ⟨t, ht⟩ : ∃ t, m.shards[k]? = some t := ⟨_, List.getElem?_eq_getElem (by rw [Hlen.out]; exact hlt)⟩
      obtain ⟨b, off, A1, n1, c1, rfl, hb, p0, p1, p2, p3, hn1, hcm1, hn1l, hri, q1, q2, q3⟩ := (HT1.out.below (Below.mono HG.out (Nat.le_refl _))).at_ ht
      have Hm := Lib.hid (shard_range p0 p1 p2 p3)
      have hdrop : m.shards.drop k = t :: m.shards.drop (k + 1) := by
       obtain ⟨e1, e2⟩ := List.getElem?_eq_some_iff.1 ht
       rw [List.drop_eq_getElem_cons e1, e2]
      have Hrr := Lib.hid (show r = ((decide (last < t.num) && decide (t.num ≤ m.gen)) && shardRight t && refGo25 m.gen t.num (m.shards.drop (k + 1))) by rw [hrr.out, hdrop, refGo25])
      clear hdrop hrr ht p0 p1 p2 p3
      have HGr := Lib.hid (hG.trans HG.out)
      have hlz := hbr.lt
      by_cases a1 : t.num ≤ last
      ·have e1 : decide (t.num ≤ last) = true := decide_eq_true a1
       have Hf := Lib.hid (show r = false by rw [Hrr.out, decide_eq_false (by omega : ¬ last < t.num)]; rfl)
       clear Hrr HG
       go_wp2_with (refine wpList_load_mid rfl 52 (.tmp 32) rfl b (off + k * 4) rfl _ _ Hm.out Tryz.underlying52 rfl (by kernel_rfl) ?_)
       go_ret
       exact ⟨ret_bool Hf.out.symm, HGr.out.trans (Grow.alloc _ _)⟩
      ·have e1 : decide (t.num ≤ last) = false := decide_eq_false a1
       by_cases a2 : m.gen < t.num
       ·have e2 : decide (m.gen < t.num) = true := decide_eq_true a2
        have Hf := Lib.hid (show r = false by rw [Hrr.out, decide_eq_false (by omega : ¬ t.num ≤ m.gen), Bool.and_false]; rfl)
        clear Hrr HG
        go_wp2_with (refine wpList_load_mid rfl 52 (.tmp 32) rfl b (off + k * 4) rfl _ _ Hm.out Tryz.underlying52 rfl (by kernel_rfl) ?_)
        go_ret
        exact ⟨ret_bool Hf.out.symm, HGr.out.trans (Grow.alloc _ _)⟩
       ·have e2 : decide (m.gen < t.num) = false := decide_eq_false a2
        by_cases a3 : t.size < 0
        ·have e3 : decide (t.size < 0) = true := decide_eq_true a3
         have Hf := Lib.hid (show r = false by rw [Hrr.out, shardRight, decide_eq_false (by omega : ¬ 0 ≤ t.size), Bool.false_and, Bool.false_and, Bool.and_false]; rfl)
         clear Hrr HG
         go_wp2_with (refine wpList_load_mid rfl 52 (.tmp 32) rfl b (off + k * 4) rfl _ _ Hm.out Tryz.underlying52 rfl (by kernel_rfl) ?_)
         go_ret
         exact ⟨ret_bool Hf.out.symm, HGr.out.trans (Grow.alloc _ _)⟩
        ·have e3 : decide (t.size < 0) = false := decide_eq_false a3
         by_cases a4 : 67108864 < t.size
         ·have e4 : decide (67108864 < t.size) = true := decide_eq_true a4
          have Hf := Lib.hid (show r = false by rw [Hrr.out, shardRight, decide_eq_false (by omega : ¬ t.size ≤ 67108864), Bool.and_false, Bool.false_and, Bool.and_false]; rfl)
          clear Hrr HG
          go_wp2_with (refine wpList_load_mid rfl 52 (.tmp 32) rfl b (off + k * 4) rfl _ _ Hm.out Tryz.underlying52 rfl (by kernel_rfl) ?_)
          go_ret
          exact ⟨ret_bool Hf.out.symm, HGr.out.trans (Grow.alloc _ _)⟩
         ·have e4 : decide (67108864 < t.size) = false := decide_eq_false a4
          have Hrr2 := Lib.hid (show r = (riseB 3999 0 t.dead && refGo25 m.gen t.num (m.shards.drop (k + 1))) by
           rw [Hrr.out, shardRight, decide_eq_true (by omega : last < t.num), decide_eq_true (by omega : t.num ≤ m.gen), decide_eq_true (by omega : 0 ≤ t.size), decide_eq_true (by omega : t.size ≤ 67108864)]
           simp)
          have Hri := Lib.hid (IntsAt.below hri (Below.mono (Grow.alloc wr (.cells #[.int .i64 t.num, .int .i64 t.size, .int .u32 (t.sum.toNat : Int), .slice A1 n1 c1] 52)) HG.out.size))
          have hri2 := hri.len
          clear Hrr hri
          go_wp2_with (refine wpList_load_mid rfl 52 (.tmp 32) rfl b (off + k * 4) rfl _ _ Hm.out Tryz.underlying52 rfl (by kernel_rfl) ?_)
          obtain ⟨W1, hW1⟩ : ∃ W1, wr.alloc (.cells #[.int .i64 t.num, .int .i64 t.size, .int .u32 (t.sum.toNat : Int), .slice A1 n1 c1] 52) = W1 := ⟨_, rfl⟩
          have hs1 : Blk W1 wr.heap.size 52 #[.int .i64 t.num, .int .i64 t.size, .int .u32 (t.sum.toNat : Int), .slice A1 n1 c1] := by rw [← hW1]; exact Blk.new _ _ _
          have HG1 := Lib.hid (show Grow w1 W1 by rw [← hW1]; exact HG.out.trans (Grow.alloc _ _))
          rw [hW1] at Hri
          try rw [hW1]
          have hs0 := hs1.cell 0
          have hs3 := hs1.cell 3
          have Hdl := Lib.hid hri2
          unfold Wide64 at q1
          clear hW1 hc0 hc1 hbr hlz
          go_loopw [6, 7] (fun v6 v7 ws => ∃ (j : Nat) (d : Int), j ≤ n1 ∧ v6 = .int .i64 d ∧ v7 = .int .i64 (j : Int) ∧ -1 ≤ d ∧ d ≤ 3999 ∧ Hid (riseB 3999 0 t.dead = riseB 3999 (d + 1) (t.dead.drop j)) ∧ W1 = ws) (fun _ v7 _ => n1 - (intOf v7).toNat)
          case atStart => exact ⟨0, -1, by omega, rfl, rfl, by omega, by omega, rfl, by first | rfl | assumption⟩
          case round =>
           obtain ⟨j, d, hj, rfl, rfl, hd1, hd2, hrd, rfl⟩ := hrel
           by_cases hjl : j < n1
           ·obtain ⟨b3, off3, rfl, hb3, hcl⟩ := Hri.out.at_ (by omega)
            obtain ⟨x, hx⟩ : ∃ x, t.dead[j]? = some x := ⟨_, List.getElem?_eq_getElem (by rw [Hdl.out]; exact hjl)⟩
            have hcx := hcl j x hx
            have Hd := Lib.hid (show riseB 3999 0 t.dead = (decide (d + 1 ≤ x) && decide (x ≤ 3999) && riseB 3999 (x + 1) (t.dead.drop (j + 1))) by
             obtain ⟨p1, p2⟩ := List.getElem?_eq_some_iff.1 hx
             rw [hrd.out, List.drop_eq_getElem_cons p1, p2, riseB_cons])
            clear hcl hx hrd
            by_cases b1 : x ≤ d
            ·have f1 : decide (x ≤ d) = true := decide_eq_true b1
             have Hf := Lib.hid (show r = false by rw [Hrr2.out, Hd.out, decide_eq_false (by omega : ¬ d + 1 ≤ x)]; rfl)
             clear Hrr2 Hd HG
             go_wp2
             go_ret
             exact ⟨ret_bool Hf.out.symm, hG.trans HG1.out⟩
            ·have f1 : decide (x ≤ d) = false := decide_eq_false b1
             by_cases b2 : 4000 ≤ x
             ·have f2 : decide (4000 ≤ x) = true := decide_eq_true b2
              have Hf := Lib.hid (show r = false by rw [Hrr2.out, Hd.out, decide_eq_false (by omega : ¬ x ≤ 3999), Bool.and_false]; rfl)
              clear Hrr2 Hd HG
              go_wp2
              go_ret
              exact ⟨ret_bool Hf.out.symm, hG.trans HG1.out⟩
             ·have f2 : decide (4000 ≤ x) = false := decide_eq_false b2
              have Hd2 := Lib.hid (show riseB 3999 0 t.dead = riseB 3999 (x + 1) (t.dead.drop (j + 1)) by rw [Hd.out, decide_eq_true (by omega : d + 1 ≤ x), decide_eq_true (by omega : x ≤ 3999)]; rfl)
              clear Hd
              go_wp2
              go_roundw
              case rel => exact ⟨j + 1, x, by omega, by go_num, by go_num, by omega, by omega, Hd2, trivial⟩
              case measure => simp [intOf]; omega
           ·obtain rfl : j = n1 := by omega
            have Hr4 := Lib.hid (show r = refGo25 m.gen t.num (m.shards.drop (k + 1)) by rw [Hrr2.out, hrd.out, List.drop_eq_nil_of_le (by rw [Hdl.out]; exact Nat.le_refl _)]; rfl)
            clear Hrr2 hrd
            go_wp2
            go_roundw
            case rel => exact ⟨k + 1, t.num, by omega, by go_num, by go_num, q1, Hr4, HG1⟩
            case measure => simp [intOf]; omega
     ·obtain rfl : k = n := by omega
      have Hrt := Lib.hid (show r = true by rw [hrr.out, List.drop_eq_nil_of_le (by rw [Hlen.out]; exact Nat.le_refl _)]; rfl)
      clear hrr
      go_wp2
      go_ret
      exact ⟨ret_bool Hrt.out.symm, hG.trans HG.out⟩
end Go.Proofs.YtcimkoehcdfjdaaGreatDoor

namespace Go.Proofs.YtcimkoehcdfjdaaGreatDoor
open Go.RowKit WireM
set_option linter.unusedVariables false

def WToV (w : World) (B g : Nat) (v : Value) (l' : List UInt8) (w' : World) : Prop := ∃ v', Wr 55 w' B g v' l' false ∧ Foot w g v w' v'
theorem PutsTo.to {w w' : World} {B g : Nat} {v : Value} {st : St} {len : Nat} {l : List UInt8} (h : PutsTo 55 w B g v st len w') (hs : st = some l) : WToV w B g v l w' := by
 obtain ⟨v', l', bad', h1, h2, h3, -⟩ := h
 rw [hs] at h3
 cases bad' with
 | true => cases h3
 | false =>
  rw [stOf_false] at h3
  injection h3 with h3
  subst h3
  exact ⟨v', h1, h2⟩
theorem vN (w : World) (B g : Nat) (v : Value) (l : List UInt8) (x : Int) (hW : Wr 55 w B g v l false) (h0 : 0 ≤ x) (h1 : x ≤ 1099511627776) (hl : l.length ≤ 100000000) :
  Calls Tryz.prog 22 #[.pointer (some ⟨g, 0, none⟩), .int .i64 x] w fun e w' => e = .returned (.tuple #[]) ∧ WToV w B g v (l ++ enc x.toNat) w' :=
 (vNumber_any w B g v l false x hW (by omega)).mono fun e w' ⟨h, hp⟩ => ⟨h, hp.to (by rw [stOf_false, putNum, if_pos ⟨h0, by unfold maxNum; omega⟩])⟩
theorem vF (w : World) (B g : Nat) (v : Value) (l : List UInt8) (x : BitVec 32) (hW : Wr 55 w B g v l false) (hl : l.length ≤ 100000000) :
  Calls Tryz.prog 23 #[.pointer (some ⟨g, 0, none⟩), .int .u32 (x.toNat : Int)] w fun e w' => e = .returned (.tuple #[]) ∧ WToV w B g v (l ++ fourB x) w' :=
 (vFixed_any w B g v l false x hW (by omega)).mono fun e w' ⟨h, hp⟩ => ⟨h, hp.to (by rw [stOf_false, putFixed]; rfl)⟩
theorem vR (w : World) (B g : Nat) (v : Value) (l : List UInt8) (A : Option Addr) (n c : Nat) (L : List Int) (hW : Wr 55 w B g v l false) (hR : IntsAt w B A n L) (h : Rises 0 (natRowM L)) (h0 : ∀ x ∈ L, 0 ≤ x ∧ x ≤ 3999) (hL : L.length ≤ 4000) (hl : l.length ≤ 100000000) :
  Calls Tryz.prog 24 #[.pointer (some ⟨g, 0, none⟩), .slice A n c] w fun e w' => e = .returned (.tuple #[]) ∧ WToV w B g v (l ++ (enc L.length ++ rb 0 (natRowM L))) w' := by
 have hlen := hR.len
 have hB : B ≤ w.heap.size := Nat.le_trans hW.base (Nat.le_of_lt hW.cell.lt)
 refine (vRising_any w B g v l false A n c L hW (hR.more hB) (fun h0 ad e hf => ?_) (by omega)).mono fun e w' ⟨h2, hp⟩ => ⟨h2, hp.to (by rw [stOf_false, putRising_ok L l h h0 hL])⟩
 obtain ⟨b, off, e2, hb, _⟩ := hR.at_ h0
 rw [e2] at e
 injection e with e
 subst e
 have := hW.ge _ hf
 simp only at this
 omega
structure MRInv (w : World) (m : ManiM) (k : Nat) (W : World) : Prop where
 wr : ∃ v, Wr 55 W w.heap.size w.heap.size v (upTo m k) false
 below : Below w.heap.size w W

set_option maxRecDepth 100000 in
set_option maxHeartbeats 4000000 in
theorem mrPut_any (w : World) (v : Value) (m : ManiM) (hM : ManiAt w w.heap.size v m) : Calls Tryz.prog 10 #[v] w (MPutTo w m) := by
 have hM0 := hM
 obtain ⟨⟨A, n, c, rfl, hnc, hcm, hn, hT⟩, hg1, hg2⟩ := hM
 obtain ⟨w1, hw1⟩ : ∃ w1, w.alloc (.cells #[.int .i64 m.gen, .slice A n c] 24) = w1 := ⟨_, rfl⟩
 have hG : Grow w w1 := by rw [← hw1]; exact Grow.alloc _ _
 have hb1 : Blk w1 w.heap.size 24 #[.int .i64 m.gen, .slice A n c] := by rw [← hw1]; exact Blk.new _ _ _
 have HM1 := Lib.hid (hM0.grow (Nat.le_refl _) hG)
 have HT1 := Lib.hid (show ShardsAt w1 w1.heap.size A n m.shards from (hT.keep fun p hp => hG.cell hp).more hG.size)
 have Hlen := Lib.hid hT.len
 have hc0 := hb1.cell 0
 have hc1 := hb1.cell 1
 have hgz := hb1.lt
 clear hT hM0
 cases hr : maniRight m with
 | false =>
  have Hr := Lib.hid hr
  clear hr
  go_enter Tryz.func10, Tryz.ntmps10
  go_wp2_with fail
  refine (mrRight_any w1 _ m HM1.out false (Lib.hid Hr.out.symm)).mono ?_
  rintro e w2 ⟨rfl, hG2⟩
  go_wp2
  go_ret2
  exact ⟨hG.trans hG2, Or.inr ⟨Hr.out, rfl⟩⟩
 | true =>
  obtain ⟨q1, q2, q3, q4, q5⟩ := mani_right hr
  have hn40 : n ≤ 40 := by rw [← Hlen.out]; exact q3
  have Hr := Lib.hid hr
  have Hq4 := Lib.hid q4
  have Hq5 := Lib.hid q5
  clear hr q4 q5 q3
  go_enter Tryz.func10, Tryz.ntmps10
  go_wp2_with fail
  refine (mrRight_any w1 _ m HM1.out true (Lib.hid Hr.out.symm)).mono ?_
  rintro e w2 ⟨rfl, hG2⟩
  have hz2 : w.heap.size < w2.heap.size := Nat.lt_of_lt_of_le hgz hG2.size
  have hb2 := Grow.blkOf hG2 hb1
  have hd0 := hb2.cell 0
  have hd1 := hb2.cell 1
  clear hc0 hc1
  go_wp2_with fail
  have hW0 : Wr 55 (w2.alloc (.cells #[.slice none 0 0, .bool false] 55)) w2.heap.size w2.heap.size (.slice none 0 0) [] false := ⟨Blk.new _ _ _, World.ownsRow_nil _ _ _ _, Nat.le_refl _⟩
  refine (vN _ w2.heap.size w2.heap.size (.slice none 0 0) [] m.gen hW0 q1 q2 (by simp)).mono ?_
  rintro e w3 ⟨rfl, v3, hW3, hF3⟩
  have hB3 : Below w2.heap.size w2 w3 := Below.trans (Grow.alloc w2 _) (hW0.below' hF3)
  have hd1' : w3.cell? ⟨w.heap.size, 1, none⟩ = _ := (hB3.cell (p := ⟨w.heap.size, 1, none⟩) hz2).trans hd1
  clear hd0 hF3 hW0
  go_wp2_with fail
  refine (vN w3 w2.heap.size w2.heap.size v3 _ (n : Int) hW3 (by omega) (by omega) (by have := enc_len6 m.gen.toNat (by omega); simp only [List.nil_append]; omega)).mono ?_
  rintro e w5 ⟨rfl, v5, hW5, hF5⟩
  have hI5 : MRInv w2 m 0 w5 := ⟨⟨v5, by
   have : [] ++ enc m.gen.toNat ++ enc (n : Int).toNat = upTo m 0 := by simp [upTo, shardsB, Hlen.out]
   rw [← this]
   exact hW5⟩, Below.trans hB3 (hW3.below' hF5)⟩
  have HI5 := Lib.hid hI5
  have HTs := Lib.hid (show ∀ W, Below w2.heap.size w2 W → ShardsAt W w1.heap.size A n m.shards from fun W h => HT1.out.keep fun p hp => (h.cell (Nat.lt_of_lt_of_le hp hG2.size)).trans (hG2.cell hp))
  have hz12 := hG2.size
  have Hhw := hG.size
  clear hW5 hF5 hI5 hW3 hB3 hd1' HM1 hb1
  go_wp2
  go_loopw [5, 6] (fun v5 _ wr => ∃ k : Nat, k ≤ n ∧ v5 = .int .i64 (k : Int) ∧ Hid (MRInv w2 m k wr)) (fun v5 _ _ => n - (intOf v5).toNat)
  case atStart => exact ⟨0, by omega, rfl, HI5.out⟩
  case round =>
   obtain ⟨k, hk, rfl, hI⟩ := hrel
   have hbr : Blk wr w.heap.size 24 #[.int .i64 m.gen, .slice A n c] := hb2.below hI.out.below hz2
   have hc1 := hbr.cell 1
   have hlr : w.heap.size < wr.heap.size := hbr.lt
   by_cases hlt : k < n
   ·obtain ⟨s, hs⟩ : ∃ s, m.shards[k]? = some s := ⟨_, List.getElem?_eq_getElem (by rw [Hlen.out]; exact hlt)⟩
    obtain ⟨b, off, A1, n1, c1, rfl, hb, p0, p1, p2, p3, hnc1, hcm1, hn1, hR, -⟩ := (HTs.out wr hI.out.below).at_ hs
    have Hm := Lib.hid (shard_range p0 p1 p2 p3)
    have hzr := hI.out.below.size
    obtain ⟨v, hW⟩ := hI.out.wr
    have hsr : shardRight s = true := by
     have := Hq4.out
     rw [List.all_eq_true] at this
     exact this s (List.mem_of_getElem? hs)
    obtain ⟨r1, r2, r3, r4, r5, r6⟩ := shard_dead hsr
    obtain ⟨r7, r8⟩ := Hq5.out s (List.mem_of_getElem? hs)
    have hlk : (upTo m k).length ≤ 1000000 := shards_take_len Hr.out k
    have hlk2 : (upTo m (k + 1)).length ≤ 1000000 := shards_take_len Hr.out (k + 1)
    have hup := upTo_succ hs
    have hupl := congrArg List.length hup
    simp only [List.length_append] at hupl
    obtain ⟨w3, hw3⟩ : ∃ w3, wr.alloc (.cells #[.int .i64 s.num, .int .i64 s.size, .int .u32 (s.sum.toNat : Int), .slice A1 n1 c1] 52) = w3 := ⟨_, rfl⟩
    have hG3 : Grow wr w3 := by rw [← hw3]; exact Grow.alloc _ _
    have hb3 : Blk w3 wr.heap.size 52 #[.int .i64 s.num, .int .i64 s.size, .int .u32 (s.sum.toNat : Int), .slice A1 n1 c1] := by rw [← hw3]; exact Blk.new _ _ _
    have hc30 := hb3.cell 0
    have hz3 := hb3.lt
    have hne3 : ¬ FootS w2.heap.size v wr.heap.size := hW.old (Nat.le_refl _)
    have hW3 := hW.grow hG3
    clear hs p0 p1 p2 p3
    go_wp2_with (refine wpList_load_mid rfl 52 (.tmp 31) rfl b (off + k * 4) rfl _ _ Hm.out Tryz.underlying52 rfl (by kernel_rfl) ?_)
    refine (vN w3 w2.heap.size w2.heap.size v (upTo m k) s.num hW3 r7 r8 (by omega)).mono ?_
    rintro e w4 ⟨rfl, v4, hW4, hF4⟩
    have hb4 := hF4.keep.blk hb3 hne3
    have hne4 := hF4.off hz3 hne3
    have hB4 : Below w2.heap.size wr w4 := Below.trans (Below.mono hG3 hzr) (hW3.below' hF4)
    have hc41 := hb4.cell 1
    have hz4 := hb4.lt
    clear hF4 hW3 hc30 hb3
    go_wp2_with fail
    refine (vN w4 w2.heap.size w2.heap.size v4 _ s.size hW4 r1 (by omega) (by simp only [List.length_append]; omega)).mono ?_
    rintro e w5 ⟨rfl, v5, hW5, hF5⟩
    have hb5 := hF5.keep.blk hb4 hne4
    have hne5 := hF5.off hz4 hne4
    have hB5 := Below.trans hB4 (hW4.below' hF5)
    have hc52 := hb5.cell 2
    have hz5 := hb5.lt
    clear hF5 hW4 hc41 hb4 hB4
    go_wp2_with fail
    refine (vF w5 w2.heap.size w2.heap.size v5 _ s.sum hW5 (by simp only [List.length_append]; omega)).mono ?_
    rintro e w6 ⟨rfl, v6, hW6, hF6⟩
    have hb6 := hF6.keep.blk hb5 hne5
    have hB6 := Below.trans hB5 (hW5.below' hF6)
    have hc63 := hb6.cell 3
    have hR6 : IntsAt w6 w2.heap.size A1 n1 s.dead := (ReadsAt.more hR hz12).below hB6
    clear hF6 hW5 hc52 hb5 hB5
    go_wp2_with fail
    refine (vR w6 w2.heap.size w2.heap.size v6 _ A1 n1 c1 s.dead hW6 hR6 r3 r5 r6 (by simp only [List.length_append]; omega)).mono ?_
    rintro e w7 ⟨rfl, v7, hW7, hF7⟩
    have HI2 := Lib.hid (show MRInv w2 m (k + 1) w7 from ⟨⟨v7, by
     rw [← hup]
     simpa only [List.append_assoc] using hW7⟩, Below.trans hI.out.below (Below.trans hB6 (hW6.below' hF7))⟩)
    clear hW7 hF7 hW6 hB6 hR6
    go_wp2
    go_roundw
    case rel => exact ⟨k + 1, by omega, by go_num, HI2⟩
    case measure => simp [intOf]; omega
   ·obtain rfl : k = n := by omega
    obtain ⟨v, hW⟩ := hI.out.wr
    have hall : upTo m k = maniB m := by rw [← upTo_all, Hlen.out]
    rw [hall] at hW
    have hlen := maniB_len Hr.out
    have hzr := hI.out.below.size
    go_wp2_with fail
    refine (vBytes_any wr w2.heap.size w2.heap.size v _ false hW (by omega)).mono ?_
    rintro e w4 ⟨r, rfl, ho4, hg4⟩
    rw [show told (stOf (maniB m) false) = maniB m from rfl] at ho4
    obtain ⟨A4, c4, rfl, h41, h42, h43⟩ := own_reads ho4
    obtain ⟨w5, hw5⟩ : ∃ w5, w4.alloc (.cells #[.int .u8 1, .slice A4 (maniB m).length c4] 40) = w5 := ⟨_, rfl⟩
    have hG5 : Grow w4 w5 := by rw [← hw5]; exact Grow.alloc _ _
    have hb5 : Blk w5 w4.heap.size 40 #[.int .u8 (((1 : UInt8).toNat : Nat) : Int), .slice A4 (maniB m).length c4] := by rw [← hw5]; exact Blk.new _ _ _
    have hT5 := PartsAt.one (tag := 1) hb5 hb5.lt (show BytesAt w5 w5.heap.size A4 (maniB m).length (maniB m) from ReadsAt.more (ReadsAt.below h43 hG5) hG5.size) h41 h42 (by omega)
    have hG45 : Grow w w5 := hG.trans (Below.trans hG2 (Below.mono (Below.trans hI.out.below (Below.mono (Grow.trans hg4 hG5) hzr)) hz12))
    clear ho4 h43 hb5 hW
    go_wp2_with fail
    refine (rPut_any w5 _ 1 1 _ hT5 (by omega) (Nat.le_trans (mfile_len Hr.out) (by omega))).mono ?_
    rintro e w6 ⟨r6, rfl, ho6, hg6⟩
    go_wp2
    go_ret2
    exact ⟨hG45.trans hg6, Or.inl ⟨Hr.out, r6, rfl, own_base ho6 hG45.size⟩⟩
end Go.Proofs.YtcimkoehcdfjdaaGreatDoor
