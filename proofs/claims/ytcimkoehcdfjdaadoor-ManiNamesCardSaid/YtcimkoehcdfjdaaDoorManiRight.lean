/-
  The walk of mani's Right.
-/
import Derived.Test.YtcimkoehcdfjdaaDoorSameShards
namespace Go.Proofs.YtcimkoehcdfjdaaDoor
open Go.RowKit WireM
set_option linter.unusedVariables false

theorem head_no {m : ManiM} (h : headRight m = false) : maniRight m = false := by rw [maniRight, h]; rfl
theorem shard_no {m : ManiM} {s : ShardM} {k : Nat} (hk : m.shards[k]? = some s) (h : shardRight s = false) : maniRight m = false := by
  have : m.shards.all shardRight = false := by
    rw [List.all_eq_false]
    exact ⟨s, List.mem_of_getElem? hk, by rw [h]; simp⟩
  rw [maniRight, this, Bool.and_false, Bool.false_and]
theorem all_right {ss : List ShardM} {k : Nat} {s : ShardM} (h : ∀ x ∈ ss.take k, shardRight x = true) (hk : ss[k]? = some s) (hs : shardRight s = true) : ∀ x ∈ ss.take (k + 1), shardRight x = true := fun x hx => by
  rw [List.take_add_one, hk] at hx
  rcases List.mem_append.1 hx with hx | hx
  · exact h x hx
  · obtain rfl : x = s := by simpa using hx
    exact hs
theorem nums_succ {ss : List ShardM} {k : Nat} {s : ShardM} (hk : ss[k]? = some s) : (ss.take (k + 1)).map (fun s => i64v s.num) = (ss.take k).map (fun s => i64v s.num) ++ [.int .i64 s.num] := by
  rw [List.take_add_one, hk, List.map_append]
  rfl

set_option maxRecDepth 100000 in
set_option maxHeartbeats 4000000 in
theorem Right_any (w : World) (v : Value) (m : ManiM) (hM : ManiAt w w.heap.size v m) (r : Bool) (Hr : Hid (r = maniRight m)) :
    Calls Tryd.prog 16 #[v] w fun e w' => e = .returned (.bool r) ∧ Grow w w' := by
  have intsTy : AppTy Tryd.prog 22 3 (.int .i64 0) 1 8 := AppTy.mk' Tryd.underlying22 (by kernel_rfl) rfl (by decide)
  obtain ⟨⟨A, n, c, rfl, hnc, hcm, hn, hT⟩, hg1, hg2⟩ := hM
  obtain ⟨w1, hw1⟩ : ∃ w1, w.alloc (.cells #[.int .i64 m.gen, .slice A n c] 34) = w1 := ⟨_, rfl⟩
  have hG : Grow w w1 := by rw [← hw1]; exact Grow.alloc _ _
  have hb1 : Blk w1 w.heap.size 34 #[.int .i64 m.gen, .slice A n c] := by rw [← hw1]; exact Blk.new _ _ _
  have HT1 := Lib.hid (show ShardsAt w1 w1.heap.size A n m.shards from (hT.keep fun p hp => hG.cell hp).more hG.size)
  have Hlen := Lib.hid hT.len
  have hc0 := hb1.cell 0
  have hc1 := hb1.cell 1
  have hgz := hb1.lt
  clear hT
  by_cases h1 : m.gen < 0
  · have Hr2 := Lib.hid (show r = false by rw [Hr.out]; exact head_no (by simp only [headRight]; rw [decide_eq_false (by omega : ¬ 0 ≤ m.gen)]; rfl))
    have d1 : decide (m.gen < 0) = true := decide_eq_true h1
    go_enter Tryd.func16, Tryd.ntmps16
    go_wp2
    go_ret
    exact ⟨ret_bool Hr2.out.symm, hG⟩
  · have d1 : decide (m.gen < 0) = false := decide_eq_false h1
    by_cases h2 : 1099511627776 < m.gen
    · have Hr2 := Lib.hid (show r = false by rw [Hr.out]; exact head_no (by simp only [headRight]; rw [decide_eq_false (by omega : ¬ m.gen ≤ 1099511627776), Bool.and_false]; rfl))
      have d2 : decide (1099511627776 < m.gen) = true := decide_eq_true h2
      go_enter Tryd.func16, Tryd.ntmps16
      go_wp2
      go_ret
      exact ⟨ret_bool Hr2.out.symm, hG⟩
    · have d2 : decide (1099511627776 < m.gen) = false := decide_eq_false h2
      by_cases h3 : 40 < n
      · have Hr2 := Lib.hid (show r = false by rw [Hr.out]; exact head_no (by simp only [headRight]; rw [decide_eq_false (by rw [Hlen.out]; omega : ¬ m.shards.length ≤ 40), Bool.and_false]))
        have d3 : decide ((40 : Int) < (n : Int)) = true := decide_eq_true (by omega)
        go_enter Tryd.func16, Tryd.ntmps16
        go_wp2
        go_ret
        exact ⟨ret_bool Hr2.out.symm, hG⟩
      · have d3 : decide ((40 : Int) < (n : Int)) = false := decide_eq_false (by omega)
        have Hhead := Lib.hid (show headRight m = true by
          simp only [headRight, Bool.and_eq_true, decide_eq_true_eq]
          rw [Hlen.out]
          exact ⟨⟨by omega, by omega⟩, by omega⟩)
        go_enter Tryd.func16, Tryd.ntmps16
        go_wp2
        clear hw1
        go_loopw [3, 5, 23] (fun v3 _ v23 wr => ∃ k : Nat, k ≤ n ∧ v23 = .int .i64 (k : Int) ∧ Hid (wr.ownsRow w1.heap.size 3 1 v3 k ((m.shards.take k).map fun s => i64v s.num)) ∧ Hid (∀ s ∈ m.shards.take k, shardRight s = true) ∧ Hid (Grow w1 wr)) (fun _ _ v23 _ => n - (intOf v23).toNat)
        case atStart => exact ⟨0, by omega, rfl, World.ownsRow_nil _ _ _ _, by simp [Hid], Grow.refl w1⟩
        case round =>
          obtain ⟨k, hk, rfl, ho, hall, hgr⟩ := hrel
          have hzr := hgr.out.size
          have hbr := hb1.below hgr.out hgz
          have hr0 := hbr.cell 0
          have hr1 := hbr.cell 1
          by_cases hlt : k < n
          · obtain ⟨s, hs⟩ : ∃ s, m.shards[k]? = some s := ⟨_, List.getElem?_eq_getElem (by rw [Hlen.out]; exact hlt)⟩
            obtain ⟨b, off, A1, n1, c1, rfl, hb, p0, p1, p2, p3, hnc1, hcm1, hn1, hI, -⟩ := (HT1.out.keep fun p hp => hgr.out.cell hp).at_ hs
            have Hm := Lib.hid (shard_range p0 p1 p2 p3)
            obtain ⟨w2, hw2⟩ : ∃ w2, wr.alloc (.cells #[.int .i64 s.num, .int .i64 s.size, .int .u32 (s.sum.toNat : Int), .slice A1 n1 c1] 52) = w2 := ⟨_, rfl⟩
            have hG2 : Grow wr w2 := by rw [← hw2]; exact Grow.alloc _ _
            have hb2 : Blk w2 wr.heap.size 52 #[.int .i64 s.num, .int .i64 s.size, .int .u32 (s.sum.toNat : Int), .slice A1 n1 c1] := by rw [← hw2]; exact Blk.new _ _ _
            have HI := Lib.hid (show IntsAt w2 w1.heap.size A1 n1 s.dead from hI.keep fun p hp => hG2.cell (Nat.lt_of_lt_of_le hp hzr))
            have Hs := Lib.hid hs
            have q0 := hb2.cell 0
            have q1 := hb2.cell 1
            have q3 := hb2.cell 3
            have hz2 := hG2.size
            clear hs p0 p1 p2 p3 hI hr0 hr1
            by_cases e1 : s.size < 0
            · have Hr2 := Lib.hid (show r = false by rw [Hr.out]; exact shard_no Hs.out (by simp only [shardRight]; rw [decide_eq_false (by omega : ¬ 0 ≤ s.size)]; rfl))
              have f1 : decide (s.size < 0) = true := decide_eq_true e1
              go_wp2_with (refine wpList_load_mid rfl 52 (.tmp 25) rfl b (off + k * 4) rfl _ _ Hm.out Tryd.underlying52 rfl (by kernel_rfl) ?_)
              go_ret
              exact ⟨ret_bool Hr2.out.symm, (hG.trans hgr.out).trans hG2⟩
            · have f1 : decide (s.size < 0) = false := decide_eq_false e1
              by_cases e2 : 67108864 < s.size
              · have Hr2 := Lib.hid (show r = false by rw [Hr.out]; exact shard_no Hs.out (by simp only [shardRight]; rw [decide_eq_false (by omega : ¬ s.size ≤ 67108864), Bool.and_false]; rfl))
                have f2 : decide (67108864 < s.size) = true := decide_eq_true e2
                go_wp2_with (refine wpList_load_mid rfl 52 (.tmp 25) rfl b (off + k * 4) rfl _ _ Hm.out Tryd.underlying52 rfl (by kernel_rfl) ?_)
                go_ret
                exact ⟨ret_bool Hr2.out.symm, (hG.trans hgr.out).trans hG2⟩
              · have f2 : decide (67108864 < s.size) = false := decide_eq_false e2
                have Hrise := Lib.hid (rising_any w2 w1.heap.size 0 3999 A1 n1 c1 s.dead HI.out (by omega) (by omega) (by omega) (by omega))
                by_cases e3 : riseB 3999 0 s.dead = true
                · rw [e3] at Hrise
                  have Hall2 := Lib.hid (all_right hall.out Hs.out (show shardRight s = true by simp only [shardRight]; rw [decide_eq_true (by omega : 0 ≤ s.size), decide_eq_true (by omega : s.size ≤ 67108864), e3]; rfl))
                  have Hnum := Lib.hid (nums_succ Hs.out)
                  have hGa : Grow w2 (w2.alloc (.cells #[.int .i64 s.num] 3)) := Grow.alloc _ _
                  have HO := Lib.hid (show (w2.alloc (.cells #[.int .i64 s.num] 3)).ownsRow w1.heap.size 3 1 u3 k ((m.shards.take k).map fun s => i64v s.num) from own_below ho.out (hG2.trans hGa))
                  have hbase : w1.heap.size ≤ (w2.alloc (.cells #[.int .i64 s.num] 3)).heap.size := by have := hGa.size; omega
                  clear e3
                  go_wp2_with (first | (refine wpList_load_mid rfl 52 (.tmp 25) rfl b (off + k * 4) rfl _ _ Hm.out Tryd.underlying52 rfl (by kernel_rfl) ?_) | (go_at_call 43; refine Hrise.out.mono ?_; rintro e w3 ⟨rfl, rfl⟩) | (at_builtin; refine wpList_append_reads _ rfl (.tmp 41) (.tmp 44) rfl intsTy rfl HO.out rfl (ReadsAt.made1 w2 3 (.int .i64 s.num)) (by simp [Value.oneCell']) (by simp only [maxLen]; omega) (by omega) hbase ?_; intro v' w4 hown2 hgrow hat))
                  have Ho2 := Lib.hid (show w4.ownsRow w1.heap.size 3 1 v' (k + 1) ((m.shards.take (k + 1)).map fun s => i64v s.num) by rw [Hnum.out]; exact hown2)
                  have Hg2 := Lib.hid (show Grow w1 w4 from Below.grown ((hgr.out.trans hG2).trans hGa) hgrow hbase (fun q hq => (ho.out.lt q hq).1))
                  clear hown2 hgrow hat
                  go_roundw
                  case rel => exact ⟨k + 1, by omega, by go_num, Ho2, Hall2, Hg2⟩
                  case measure => simp [intOf]; omega
                · have e4 : riseB 3999 0 s.dead = false := by simpa using e3
                  rw [e4] at Hrise
                  have Hr2 := Lib.hid (show r = false by rw [Hr.out]; exact shard_no Hs.out (by simp only [shardRight]; rw [e4, Bool.and_false]))
                  go_wp2_with (first | (refine wpList_load_mid rfl 52 (.tmp 25) rfl b (off + k * 4) rfl _ _ Hm.out Tryd.underlying52 rfl (by kernel_rfl) ?_) | (go_at_call 43; refine Hrise.out.mono ?_; rintro e w3 ⟨rfl, rfl⟩))
                  go_ret
                  exact ⟨ret_bool Hr2.out.symm, (hG.trans hgr.out).trans hG2⟩
          · obtain rfl : k = n := by omega
            obtain ⟨A1, c1, rfl, -, hcm1, hrd⟩ := own_reads ho.out
            have Hrise := Lib.hid (rising_any wr wr.heap.size 1 m.gen A1 k c1 (m.shards.map (·.num)) (show ReadsAt _ _ _ _ _ _ by
              rw [List.map_map]
              rw [List.take_of_length_le (by rw [Hlen.out]; exact Nat.le_refl _)] at hrd
              exact hrd) (by simp only [maxLen]; omega) (by omega) (by omega) (by omega))
            have Hr2 := Lib.hid (show riseB m.gen 1 (m.shards.map (·.num)) = r by
              have h1 : m.shards.all shardRight = true := by
                rw [List.all_eq_true]
                intro x hx
                exact hall.out x (by rw [List.take_of_length_le (by rw [Hlen.out]; exact Nat.le_refl _)]; exact hx)
              rw [Hr.out, maniRight, Hhead.out, h1]
              rfl)
            rw [Hr2.out] at Hrise
            clear hrd
            go_wp2_with (go_at_call 43; refine Hrise.out.mono ?_; rintro e w3 ⟨rfl, rfl⟩)
            go_ret
            exact ⟨rfl, hG.trans hgr.out⟩
end Go.Proofs.YtcimkoehcdfjdaaDoor
