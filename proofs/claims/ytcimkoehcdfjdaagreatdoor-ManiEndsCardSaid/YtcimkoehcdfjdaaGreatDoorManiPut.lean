/-
  The walk of mani's Put.
-/
import Derived.Test.YtcimkoehcdfjdaaGreatDoorManiBase
import Derived.Test.YtcimkoehcdfjdaaGreatDoorFrameAwake
import Derived.Test.YtcimkoehcdfjdaaGreatDoorOwnRows
import Derived.Test.YtcimkoehcdfjdaaGreatDoorWRising
namespace Go.Proofs.YtcimkoehcdfjdaaGreatDoor
open Go.RowKit WireM
set_option linter.unusedVariables false

theorem Wr.new (w : World) : Wr 67 (w.alloc (.cells #[.slice none 0 0, .bool false] 67)) w.heap.size w.heap.size (.slice none 0 0) [] false :=
 ⟨Blk.new _ _ _, World.ownsRow_nil _ _ _ _, Nat.le_refl _⟩
theorem Foot.off {w w1 : World} {g : Nat} {v v1 : Value} (h : Foot w g v w1 v1) {b : Nat} (hb : b < w.heap.size) (hn : ¬ FootS g v b) : ¬ FootS g v1 b := by
 rintro (rfl | hk)
 ·exact hn (Or.inl rfl)
 ·rcases h.at_ with e | ⟨m, e, hm⟩
  ·exact hn (Or.inr (by rw [← e]; exact hk))
  ·rw [e] at hk
   injection hk with hk
   omega

def WTo (w : World) (B g : Nat) (v : Value) (l' : List UInt8) (w' : World) : Prop := ∃ v', Wr 67 w' B g v' l' false ∧ Foot w g v w' v'
theorem WNum2 (w : World) (B g : Nat) (v : Value) (l : List UInt8) (m tm : Nat) (x y : Int) (hW : Wr 67 w B g v l false) (hm : Blk w m tm #[.int .i64 x, .int .i64 y]) (hA : ¬ FootS g v m) (hx : 0 ≤ x) (hx2 : x ≤ 1099511627776) (hy : 0 ≤ y) (hy2 : y ≤ 1099511627776) (hl : l.length ≤ 100000000) :
  Calls Tryz.prog 32 #[.pointer (some ⟨g, 0, none⟩), .slice (some ⟨m, 0, none⟩) 2 2] w fun e w' => e = .returned (.tuple #[]) ∧ WTo w B g v (l ++ (enc x.toNat ++ enc y.toNat)) w' := by
 have hI : IntsAt w w.heap.size (some ⟨m, 0, none⟩) 2 [x, y] := ReadsAt.more (Blk.readsAll (cs := [.int .i64 x, .int .i64 y]) hm) hm.lt
 have hf : fitsB [x, y] = true := by
  simp only [fitsB, List.all_cons, List.all_nil, badB]
  simp
  omega
 have h := WNumber_any w B g v l false _ 2 2 [x, y] hW hI (fun ad e => by injection e with e; subst e; exact hA) (by omega) (by simp only [maxLen]; omega)
 rw [hf] at h
 refine h.mono ?_
 rintro e w' ⟨rfl, v', h1, h2⟩
 refine ⟨rfl, v', ?_, h2⟩
 simpa [encAll] using h1
theorem putRising_ok (L : List Int) (l : List UInt8) (h : Rises 0 (natRowM L)) (h0 : ∀ x ∈ L, 0 ≤ x ∧ x ≤ 3999) (hl : L.length ≤ 4000) : putRising L (some l) = some (l ++ (enc L.length ++ rb 0 (natRowM L))) := by
 have := putRising_rb (natRowM L) l h (by rw [natRowM_len]; unfold maxNum; omega)
 rw [natRowM_back fun x hx => (h0 x hx).1, natRowM_len] at this
 exact this
theorem WRis (w : World) (B g : Nat) (v : Value) (l : List UInt8) (A : Option Addr) (n c : Nat) (L : List Int) (hW : Wr 67 w B g v l false) (hR : IntsAt w B A n L) (h : Rises 0 (natRowM L)) (h0 : ∀ x ∈ L, 0 ≤ x ∧ x ≤ 3999) (hL : L.length ≤ 4000) (hl : l.length ≤ 100000000) :
  Calls Tryz.prog 34 #[.pointer (some ⟨g, 0, none⟩), .slice A n c] w fun e w' => e = .returned (.tuple #[]) ∧ WTo w B g v (l ++ (enc L.length ++ rb 0 (natRowM L))) w' := by
 have hlen := hR.len
 have hB : B ≤ w.heap.size := Nat.le_trans hW.base (Nat.le_of_lt hW.cell.lt)
 refine (WRising_any w B g v l false A n c L hW (hR.more hB) (fun h0 ad e hf => ?_) (by omega)).mono ?_
 ·obtain ⟨b, off, e2, hb, _⟩ := hR.at_ h0
  rw [e2] at e
  injection e with e
  subst e
  have := hW.ge _ hf
  simp only at this
  omega
 ·rintro e w' ⟨rfl, v', l', bad', h1, h2, h3, h4⟩
  rw [stOf_false, putRising_ok L l h h0 hL] at h3
  cases bad' with
  | true => simp [stOf] at h3
  | false =>
   rw [stOf_false] at h3
   injection h3 with h3
   subst h3
   exact ⟨rfl, v', h1, h2⟩

theorem rbM_len : ∀ (r : List Nat) (a : Nat), Rises a r → (rb a r).length ≤ 6 * r.length
 | [], _, _ => by simp [rb]
 | n :: r, a, h => by
  obtain ⟨h1, h2, h3⟩ := h
  have := rbM_len r (n + 1) h3
  have h4 := enc_len6 (n - a) (by unfold maxNum at h2; omega)
  simp only [rb, List.length_append, List.length_cons]
  omega
theorem shardB_len {s : ShardM} (h : shardRight s = true) (hn : 0 ≤ s.num ∧ s.num ≤ 1099511627776) : (shardB s).length ≤ 24022 := by
 obtain ⟨h1, h2, h3, h4, h5, h6⟩ := shard_dead h
 have a1 := enc_len6 s.num.toNat (by omega)
 have a2 := enc_len6 s.size.toNat (by omega)
 have a3 := enc_len6 s.dead.length (by omega)
 have a4 := rbM_len _ 0 h3
 rw [natRowM_len] at a4
 simp only [shardB, List.length_append, fourB_len]
 omega
theorem shardsB_len : ∀ {ss : List ShardM}, ss.all shardRight = true → (∀ s ∈ ss, 0 ≤ s.num ∧ s.num ≤ 1099511627776) → (shardsB ss).length ≤ 24022 * ss.length
 | [], _, _ => by simp [shardsB]
 | s :: r, h, hn => by
  simp only [List.all_cons, Bool.and_eq_true] at h
  have h1 := shardB_len h.1 (hn s (by simp))
  have h2 := shardsB_len h.2 fun x hx => hn x (by simp [hx])
  simp only [shardsB, List.length_append, List.length_cons]
  omega
theorem maniB_len {m : ManiM} (h : maniRight m = true) : (maniB m).length ≤ 1000000 := by
 obtain ⟨h1, h2, h3, h4, h5⟩ := mani_right h
 have a1 := enc_len6 m.gen.toNat (by omega)
 have a2 := enc_len6 m.shards.length (by omega)
 have a3 := shardsB_len h4 h5
 simp only [maniB, List.length_append]
 omega
theorem shards_take_len {m : ManiM} (h : maniRight m = true) (k : Nat) : (enc m.gen.toNat ++ (enc m.shards.length ++ shardsB (m.shards.take k))).length ≤ 1000000 := by
 have h1 := maniB_len h
 have h2 := shardsB_append (m.shards.take k) (m.shards.drop k)
 rw [List.take_append_drop] at h2
 simp only [maniB, h2, List.length_append] at h1 ⊢
 omega
def mfileB (m : ManiM) : List UInt8 := fileB [⟨1, maniB m⟩]
theorem mfile_len {m : ManiM} (h : maniRight m = true) : (mfileB m).length ≤ 1000100 := by
 have h1 := maniB_len h
 have h2 := enc_len6 (maniB m).length (by omega)
 rw [mfileB, fileB_len]
 simp only [bodyB, partB, List.length_append, List.length_cons, List.length_nil]
 omega
def upTo (m : ManiM) (k : Nat) : List UInt8 := enc m.gen.toNat ++ (enc m.shards.length ++ shardsB (m.shards.take k))
theorem upTo_succ {m : ManiM} {k : Nat} {s : ShardM} (h : m.shards[k]? = some s) : upTo m k ++ (enc s.num.toNat ++ enc s.size.toNat) ++ fourB s.sum ++ (enc s.dead.length ++ rb 0 (natRowM s.dead)) = upTo m (k + 1) := by
 rw [upTo, upTo, shardsB_succ h, shardB]
 simp only [List.append_assoc]
theorem upTo_all (m : ManiM) : upTo m m.shards.length = maniB m := by rw [upTo, List.take_length, maniB]
structure MPutInv (w : World) (m : ManiM) (k : Nat) (W : World) : Prop where
 wr : ∃ v, Wr 67 W w.heap.size w.heap.size v (upTo m k) false
 below : Below w.heap.size w W
theorem WTo.below {w w' : World} {B g : Nat} {v : Value} {l l' : List UInt8} (hW : Wr 67 w B g v l false) (h : WTo w B g v l' w') : Below B w w' := by
 obtain ⟨v', h1, h2⟩ := h
 exact hW.below' h2
def MPutTo (w : World) (m : ManiM) (e : Ending) (w' : World) : Prop := Grow w w' ∧
 ((maniRight m = true ∧ ∃ r, e = .returned (.tuple #[r, .int .i64 0]) ∧ w'.ownsRow w.heap.size 5 1 r (mfileB m).length ((mfileB m).map b8)) ∨ (maniRight m = false ∧ e = .returned (.tuple #[.slice none 0 0, .int .i64 2])))

set_option maxRecDepth 100000 in
set_option maxHeartbeats 4000000 in
theorem MPut_any (w : World) (v : Value) (m : ManiM) (hM : ManiAt w w.heap.size v m) : Calls Tryz.prog 9 #[v] w (MPutTo w m) := by
 have hM0 := hM
 obtain ⟨⟨A, n, c, rfl, hnc, hcm, hn, hT⟩, hg1, hg2⟩ := hM
 obtain ⟨w1, hw1⟩ : ∃ w1, w.alloc (.cells #[.int .i64 m.gen, .slice A n c] 24) = w1 := ⟨_, rfl⟩
 have hG : Grow w w1 := by rw [← hw1]; exact Grow.alloc _ _
 have hb1 : Blk w1 w.heap.size 24 #[.int .i64 m.gen, .slice A n c] := by rw [← hw1]; exact Blk.new _ _ _
 have hM1 : ManiAt w1 w1.heap.size (.agg #[.int .i64 m.gen, .slice A n c]) m := hM0.grow (Nat.le_refl _) hG
 have HT1 := Lib.hid (show ShardsAt w1 w1.heap.size A n m.shards from (hT.keep fun p hp => hG.cell hp).more hG.size)
 have Hlen := Lib.hid hT.len
 have hc0 := hb1.cell 0
 have hc1 := hb1.cell 1
 have hgz := hb1.lt
 have Hm1 := Lib.hid (show w1.rangeAt w.heap.size 0 [.int .i64 m.gen, .slice A n c] from fun j v hj => by
  match j, hj with
  | 0, hj => cases hj; exact hc0
  | 1, hj => cases hj; exact hc1)
 clear hT hM0
 cases hr : maniRight m with
 | false =>
  have Hr := Lib.hid hr
  clear hr
  go_enter Tryz.func9, Tryz.ntmps9
  go_wp2_with (first | (go_at_call 12; refine (Right_any w1 _ m hM1 false (Lib.hid Hr.out.symm)).mono ?_; rintro e w2 ⟨rfl, hG2⟩))
  go_ret2
  exact ⟨hG.trans hG2, Or.inr ⟨Hr.out, rfl⟩⟩
 | true =>
  obtain ⟨q1, q2, q3, q4, q5⟩ := mani_right hr
  have hn40 : n ≤ 40 := by rw [← Hlen.out]; exact q3
  have Hr := Lib.hid hr
  have Hq4 := Lib.hid q4
  have Hq5 := Lib.hid q5
  clear hr q4 q5 q3
  go_enter Tryz.func9, Tryz.ntmps9
  go_wp2_with (first | (go_at_call 12; refine (Right_any w1 _ m hM1 true (Lib.hid Hr.out.symm)).mono ?_; rintro e w2 ⟨rfl, hG2⟩; have hz2 : w.heap.size < w2.heap.size := (by have := hG2.size; omega); have hd0 := (hb1.below hG2 hgz).cell 0; have hd1 := (hb1.below hG2 hgz).cell 1))
  have hW0 := Wr.new w2
  have hm := Blk.new (w2.alloc (.cells #[.slice none 0 0, .bool false] 67)) 3 #[.int .i64 m.gen, .int .i64 (n : Int)]
  rw [World.size_alloc] at hm
  refine (WNum2 _ w2.heap.size w2.heap.size (.slice none 0 0) [] (w2.heap.size + 1) 3 m.gen (n : Int) (hW0.grow (Grow.alloc _ _)) hm (hW0.old (by simp)) q1 q2 (by omega) (by omega) (by simp)).mono ?_
  rintro e w5 ⟨rfl, v5, hW5, hF5⟩
  have hI5 : MPutInv w2 m 0 w5 := ⟨⟨v5, by
   have : [] ++ (enc m.gen.toNat ++ enc (n : Int).toNat) = upTo m 0 := by simp [upTo, shardsB, Hlen.out]
   rw [← this]
   exact hW5⟩, Below.trans ((Grow.alloc w2 _).trans (Grow.alloc _ _)) (Wr.below' (hW0.grow (Grow.alloc _ _)) hF5)⟩
  have HI5 := Lib.hid hI5
  have hd0' : w5.cell? ⟨w.heap.size, 0, none⟩ = _ := (hI5.below.cell (p := ⟨w.heap.size, 0, none⟩) hz2).trans hd0
  have hd1' : w5.cell? ⟨w.heap.size, 1, none⟩ = _ := (hI5.below.cell (p := ⟨w.heap.size, 1, none⟩) hz2).trans hd1
  have HTs := Lib.hid (show ∀ W, Below w2.heap.size w2 W → ShardsAt W w1.heap.size A n m.shards from fun W h => HT1.out.keep fun p hp => (h.cell (Nat.lt_of_lt_of_le hp hG2.size)).trans (hG2.cell hp))
  have Hg2 := Lib.hid hG2
  have Hhw := hG.size
  clear hW5 hF5 hI5 hW0 hm hM1 hb1
  go_wp2
  go_loopw [6, 23] (fun _ v23 wr => ∃ k : Nat, k ≤ n ∧ v23 = .int .i64 (k : Int) ∧ Hid (MPutInv w2 m k wr)) (fun _ v23 _ => n - (intOf v23).toNat)
  case atStart => exact ⟨0, by omega, rfl, HI5.out⟩
  case round =>
   obtain ⟨k, hk, rfl, hI⟩ := hrel
   by_cases hlt : k < n
   ·obtain ⟨s, hs⟩ : ∃ s, m.shards[k]? = some s := ⟨_, List.getElem?_eq_getElem (by rw [Hlen.out]; exact hlt)⟩
    obtain ⟨b, off, A1, n1, c1, rfl, hb, p0, p1, p2, p3, hnc1, hcm1, hn1, hR, -⟩ := (HTs.out wr hI.out.below).at_ hs
    have Hm := Lib.hid (shard_range p0 p1 p2 p3)
    have hzr := hI.out.below.size
    have hz1 := hG2.size
    obtain ⟨v, hW⟩ := hI.out.wr
    have hsr : shardRight s = true := by
     have := Hq4.out
     rw [List.all_eq_true] at this
     exact this s (List.mem_of_getElem? hs)
    obtain ⟨r1, r2, r3, r4, r5, r6⟩ := shard_dead hsr
    obtain ⟨r7, r8⟩ := Hq5.out s (List.mem_of_getElem? hs)
    have hlk : (upTo m k).length ≤ 1000000 := shards_take_len Hr.out k
    have hlk2 : (upTo m (k + 1)).length ≤ 1000000 := shards_take_len Hr.out (k + 1)
    have hup := upTo_succ hs
    obtain ⟨w3, hw3⟩ : ∃ w3, wr.alloc (.cells #[.int .i64 s.num, .int .i64 s.size, .int .u32 (s.sum.toNat : Int), .slice A1 n1 c1] 52) = w3 := ⟨_, rfl⟩
    have hG3 : Grow wr w3 := by rw [← hw3]; exact Grow.alloc _ _
    have hb3 : Blk w3 wr.heap.size 52 #[.int .i64 s.num, .int .i64 s.size, .int .u32 (s.sum.toNat : Int), .slice A1 n1 c1] := by rw [← hw3]; exact Blk.new _ _ _
    have hc30 := hb3.cell 0
    have hc31 := hb3.cell 1
    have hz3 := hb3.lt
    have hne3 : ¬ FootS w2.heap.size v wr.heap.size := hW.old (Nat.le_refl _)
    have hW3 := hW.grow hG3
    clear hs p0 p1 p2 p3
    go_wp2_with (refine wpList_load_mid rfl 52 (.tmp 25) rfl b (off + k * 4) rfl _ _ Hm.out Tryz.underlying52 rfl (by kernel_rfl) ?_)
    have hm3 := Blk.new w3 3 #[.int .i64 s.num, .int .i64 s.size]
    have hga : Grow w3 (w3.alloc (.cells #[.int .i64 s.num, .int .i64 s.size] 3)) := Grow.alloc _ _
    have hzga := hga.size
    refine (WNum2 _ w2.heap.size w2.heap.size v (upTo m k) w3.heap.size 3 s.num s.size (hW3.grow hga) hm3 (hW3.old (Nat.le_refl _)) r7 r8 r1 (by omega) (by omega)).mono ?_
    rintro e w4 ⟨rfl, v4, hW4, hF4⟩
    have hb4 := hF4.keep.blk (hb3.below hga hz3) hne3
    have hne4 := hF4.off (Nat.lt_of_lt_of_le hz3 hzga) hne3
    have hB4 : Below w2.heap.size wr w4 := Below.trans (Below.mono (hG3.trans hga) hzr) ((hW3.grow hga).below' hF4)
    have hc42 := hb4.cell 2
    have hc43 := hb4.cell 3
    have hz4 := hb4.lt
    clear hF4 hm3 hW3 hc30 hc31 hb3
    go_wp2_with fail
    refine (WFixed_any w4 w2.heap.size w2.heap.size v4 _ false s.sum hW4 (by simp only [List.length_append]; have := congrArg List.length hup; simp only [List.length_append] at this; omega)).mono ?_
    rintro e w5 ⟨rfl, v6, hW6, hF6⟩
    have hb6 := hF6.keep.blk hb4 hne4
    have hne6 := hF6.off hz4 hne4
    have hB6 := Below.trans hB4 (hW4.below' hF6)
    have hc63 := hb6.cell 3
    have hz6 := hb6.lt
    have hR6 : IntsAt w5 w2.heap.size A1 n1 s.dead := (ReadsAt.more hR hz1).below hB6
    clear hF6 hW4 hc42 hc43 hb4 hB4
    go_wp2_with fail
    refine (WRis w5 w2.heap.size w2.heap.size v6 _ A1 n1 c1 s.dead hW6 hR6 r3 r5 r6 (by simp only [List.length_append]; have := congrArg List.length hup; simp only [List.length_append] at this; omega)).mono ?_
    rintro e w6 ⟨rfl, v7, hW7, hF7⟩
    have HI2 := Lib.hid (show MPutInv w2 m (k + 1) w6 from ⟨⟨v7, by rw [← hup]; exact hW7⟩, Below.trans hI.out.below (Below.trans hB6 (hW6.below' hF7))⟩)
    clear hW7 hF7 hW6 hB6 hR6
    go_wp2
    go_roundw
    case rel => exact ⟨k + 1, by omega, by go_num, HI2⟩
    case measure => simp [intOf]; omega
   ·obtain rfl : k = n := by omega
    obtain ⟨v, hW⟩ := hI.out.wr
    have hall : upTo m k = maniB m := by rw [← upTo_all, Hlen.out]
    rw [hall] at hW
    have hlen := maniB_len Hr.out
    have hzr := hI.out.below.size
    have hz1 := hG2.size
    go_wp2_with fail
    refine (WBytes_any wr w2.heap.size w2.heap.size v _ false hW (by omega)).mono ?_
    rintro e w4 ⟨r, rfl, ho4, hg4⟩
    rw [show told (stOf (maniB m) false) = maniB m from rfl] at ho4
    obtain ⟨A4, c4, rfl, h41, h42, h43⟩ := own_reads ho4
    obtain ⟨w5, hw5⟩ : ∃ w5, w4.alloc (.cells #[.int .u8 1, .slice A4 (maniB m).length c4] 40) = w5 := ⟨_, rfl⟩
    have hG5 : Grow w4 w5 := by rw [← hw5]; exact Grow.alloc _ _
    have hb5 : Blk w5 w4.heap.size 40 #[.int .u8 (((1 : UInt8).toNat : Nat) : Int), .slice A4 (maniB m).length c4] := by rw [← hw5]; exact Blk.new _ _ _
    have hT5 := PartsAt.one (tag := 1) hb5 hb5.lt (show BytesAt w5 w5.heap.size A4 (maniB m).length (maniB m) from ReadsAt.more (ReadsAt.below h43 hG5) hG5.size) h41 h42 (by omega)
    have hG45 : Grow w w5 := hG.trans (Below.trans hG2 (Below.mono (Below.trans hI.out.below (Below.mono (Grow.trans hg4 hG5) hzr)) hz1))
    clear ho4 h43 hb5 hW
    go_wp2_with fail
    refine (Put_any w5 w5.heap.size _ 1 1 _ hT5 (Nat.le_refl _) (by omega) (Nat.le_trans (mfile_len Hr.out) (by omega))).mono ?_
    rintro e w6 ⟨r6, rfl, ho6, hg6⟩
    have Ho6 := Lib.hid (own_base ho6 hG45.size)
    have Hg6 := Lib.hid (hG45.trans hg6)
    clear ho6 hg6
    go_wp2
    go_ret2
    exact ⟨Hg6.out, Or.inl ⟨Hr.out, r6, rfl, Ho6.out⟩⟩
end Go.Proofs.YtcimkoehcdfjdaaGreatDoor
