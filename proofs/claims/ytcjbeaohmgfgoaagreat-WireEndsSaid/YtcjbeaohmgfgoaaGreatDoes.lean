/-
  The walk of mudlarklaw02's does: a writer and the document's have the same, behind any things.
-/
import Derived.Test.YtcjbeaohmgfgoaaGreatApart
import Derived.Test.YtcjbeaohmgfgoaaGreatPutKit
import Derived.Test.YtcjbeaohmgfgoaaGreatLent
namespace Go.Proofs.YtcjbeaohmgfgoaaGreat
open Go.RowKit WireM

/-- a writer and the document's, side by side -/
structure Duo (w : World) (B gw gv : Nat) (vw : Value) (lw : List UInt8) (bw : Bool) (vv : Value) (lv : List UInt8) (bv : Bool) : Prop where
  wr : Wr 65 w B gw vw lw bw
  vr : Wr 68 w B gv vv lv bv
  ne : ∀ b, vw.ownBlock = some b → vv.ownBlock ≠ some b
section
variable {w w1 : World} {B gw gv : Nat} {vw vv vw' vv' : Value} {lw lv lw' lv' : List UInt8} {bw bv bw' bv' : Bool}
theorem Duo.sep (h : Duo w B gw gv vw lw bw vv lv bv) : ∀ k, FootS gw vw k → ¬ FootS gv vv k := fun k hk hk2 => by
  rcases hk with rfl | hk
  · rcases hk2 with e | hk2
    · have h1 := h.wr.cell
      have h2 := h.vr.cell
      rw [← e] at h2
      unfold Blk at h1 h2
      rw [h1] at h2
      injection h2 with h2
      injection h2 with _ h2
      exact absurd h2 (by decide)
    · exact absurd (own_type_blk h.vr.own hk2 h.wr.cell) (by decide)
  · rcases hk2 with rfl | hk2
    · exact absurd (own_type_blk h.wr.own hk h.vr.cell) (by decide)
    · exact h.ne k hk hk2
theorem Duo.grow (h : Duo w B gw gv vw lw bw vv lv bv) (hg : Grow w w1) : Duo w1 B gw gv vw lw bw vv lv bv := ⟨h.wr.grow hg, h.vr.grow hg, h.ne⟩
theorem Duo.left (h : Duo w B gw gv vw lw bw vv lv bv) (h1 : Wr 65 w1 B gw vw' lw' bw') (hf : Foot w gw vw w1 vw') : Duo w1 B gw gv vw' lw' bw' vv lv bv :=
  ⟨h1, h.vr.moved hf.keep fun k hk hk2 => h.sep k hk2 hk, fun b hb hb2 => by
    rcases hf.at_ with e | ⟨m, e, hm⟩
    · rw [e] at hb
      exact h.ne b hb hb2
    · rw [e] at hb
      injection hb with hb
      have := h.vr.lt b (Or.inr hb2)
      omega⟩
theorem Duo.right (h : Duo w B gw gv vw lw bw vv lv bv) (h1 : Wr 68 w1 B gv vv' lv' bv') (hf : Foot w gv vv w1 vv') : Duo w1 B gw gv vw lw bw vv' lv' bv' :=
  ⟨h.wr.moved hf.keep fun k hk hk2 => h.sep k hk hk2, h1, fun b hb hb2 => by
    rcases hf.at_ with e | ⟨m, e, hm⟩
    · rw [e] at hb2
      exact h.ne b hb hb2
    · rw [e] at hb2
      injection hb2 with hb2
      have := h.wr.lt b (Or.inr hb)
      omega⟩
end
/-- both are in one state -/
def DuoAt (w0 : World) (B gw gv : Nat) (st : St) (len : Nat) (w : World) : Prop := ∃ vw lw bw vv lv bv, Duo w B gw gv vw lw bw vv lv bv ∧ stOf lw bw = st ∧ stOf lv bv = st ∧ lw.length ≤ len ∧ lv.length ≤ len ∧ Below B w0 w
theorem DuoAt.grow {w0 w w1 : World} {B gw gv len : Nat} {st : St} (h : DuoAt w0 B gw gv st len w) (hg : Grow w w1) : DuoAt w0 B gw gv st len w1 := by
  obtain ⟨vw, lw, bw, vv, lv, bv, h1, h2, h3, h4, h5, h6⟩ := h
  exact ⟨vw, lw, bw, vv, lv, bv, h1.grow hg, h2, h3, h4, h5, Below.trans h6 (hg.mono (Nat.le_trans h1.wr.base (Nat.le_of_lt h1.wr.cell.lt)))⟩
theorem DuoAt.more {w0 w : World} {B gw gv len len' : Nat} {st : St} (h : DuoAt w0 B gw gv st len w) (hl : len ≤ len') : DuoAt w0 B gw gv st len' w := by
  obtain ⟨vw, lw, bw, vv, lv, bv, h1, h2, h3, h4, h5, h6⟩ := h
  exact ⟨vw, lw, bw, vv, lv, bv, h1, h2, h3, Nat.le_trans h4 hl, Nat.le_trans h5 hl, h6⟩
/-- the state behind some things -/
def putThings (ts : List ThingM) (st : St) : St := ts.foldl (fun s t => putThing t s) st
theorem putThings_succ {ts : List ThingM} {k : Nat} {t : ThingM} (h : ts[k]? = some t) (st : St) : putThings (ts.take (k + 1)) st = putThing t (putThings (ts.take k) st) := by
  rw [List.take_add_one, h, putThings, putThings, List.foldl_append]
  rfl
theorem u32_le (x : BitVec 32) : (x.toNat : Int) ≤ 4294967295 := by have := x.isLt; omega

set_option maxRecDepth 100000 in
set_option maxHeartbeats 8000000 in
theorem does_any (w : World) (A : Option Addr) (n c : Nat) (ts : List ThingM) (hT : ThingsAt w w.heap.size A n ts) (hs : ts.length + thingsTot ts ≤ 100000) :
    Calls Tryz.prog 7 #[.slice A n c] w fun e w' => ∃ (r : Value) (L : List UInt8), e = .returned (.tuple #[r, .bool true]) ∧ w'.ownsRow w.heap.size 5 1 r L.length (L.map b8) ∧ L.length ≤ 1200000 ∧ Grow w w' := by
  have hlen := hT.len
  have hn : n ≤ 100000 := by omega
  have Hlen := Lib.hid hlen
  have htot : thingsTot ts ≤ 100000 := by omega
  have hz1 : (w.alloc (.cells #[.slice none 0 0, .bool false] 65)).heap.size = w.heap.size + 1 := by simp
  have hD0 : DuoAt w w.heap.size w.heap.size (w.heap.size + 1) (some []) 0 ((w.alloc (.cells #[.slice none 0 0, .bool false] 65)).alloc (.cells #[.slice none 0 0, .bool false] 68)) :=
    ⟨_, [], false, .slice none 0 0, [], false, ⟨(show Wr 65 (w.alloc (.cells #[.slice none 0 0, .bool false] 65)) w.heap.size w.heap.size (.slice none 0 0) [] false from ⟨Blk.new _ _ _, World.ownsRow_nil _ _ _ _, Nat.le_refl _⟩).grow (Grow.alloc _ _), ⟨by rw [← hz1]; exact Blk.new _ _ _, World.ownsRow_nil _ _ _ _, by omega⟩, fun b h => by cases h⟩, rfl, rfl, Nat.le_refl _, Nat.le_refl _, (Grow.alloc _ _).trans (Grow.alloc _ _)⟩
  have HD0 := Lib.hid hD0
  clear hs hlen hz1 hD0
  go_enter Tryz.func7, Tryz.ntmps7
  go_wp2_with fail
  obtain ⟨gw, hgw⟩ : ∃ gw, gw = w.heap.size := ⟨_, rfl⟩
  go_loopw [6] (fun v6 wr => ∃ k : Nat, k ≤ n ∧ v6 = .int .i64 (k : Int) ∧ Hid (DuoAt w w.heap.size w.heap.size (w.heap.size + 1) (putThings (ts.take k) (some [])) (6 * k + 6 * thingsTot (ts.take k)) wr)) (fun v6 _ => n - (intOf v6).toNat)
  case atStart => exact ⟨0, by omega, rfl, HD0.out⟩
  case round =>
    clear HD0
    obtain ⟨k, hk, rfl, hD⟩ := hrel
    obtain ⟨st, hst⟩ : ∃ st, st = putThings (ts.take k) (some []) := ⟨_, rfl⟩
    obtain ⟨len, hle⟩ : ∃ len, len = 6 * k + 6 * thingsTot (ts.take k) := ⟨_, rfl⟩
    have htl := thingsTot_le ts k
    have hlb : len ≤ 1200000 := by omega
    rw [← hst, ← hle] at hD
    obtain ⟨vw, lw, bw, vv, lv, bv, hd, hst1, hst2, hl1, hl2, hbw⟩ := hD.out
    have hbz := hbw.size
    by_cases hlt : k < n
    · obtain ⟨t, ht⟩ : ∃ t, ts[k]? = some t := ⟨_, List.getElem?_eq_getElem (by rw [Hlen.out]; exact hlt)⟩
      obtain ⟨b, off, A1, n1, c1, A3, n3, c3, rfl, hb, hc0, hc1, hc2, hc3, hc4, hcs, hb1, hb2⟩ := hT.at_ ht
      obtain ⟨A1', n1', c1', A3', n3', c3', he, hki, -, -, ⟨h4, h5, h6⟩, ⟨h7, h8, h9⟩, -⟩ := hcs
      simp only [List.cons.injEq, Value.slice.injEq, and_true, true_and] at he
      obtain ⟨⟨rfl, rfl, rfl⟩, rfl, rfl, rfl⟩ := he
      have HC := Lib.hid (show ∀ W, Below w.heap.size w W → W.cell? ⟨b, off + k * 5, none⟩ = some (.int .i64 t.kind) ∧ W.cell? ⟨b, off + k * 5 + 1, none⟩ = some (.int .i64 t.n) ∧ W.cell? ⟨b, off + k * 5 + 2, none⟩ = some (.int .i64 t.many) ∧ W.cell? ⟨b, off + k * 5 + 3, none⟩ = some (.slice A1 n1 c1) ∧ W.cell? ⟨b, off + k * 5 + 4, none⟩ = some (.slice A3 n3 c3) from fun W hW =>
        ⟨(hW.cell (p := ⟨b, off + k * 5, none⟩) hb).trans hc0, (hW.cell (p := ⟨b, off + k * 5 + 1, none⟩) hb).trans hc1, (hW.cell (p := ⟨b, off + k * 5 + 2, none⟩) hb).trans hc2, (hW.cell (p := ⟨b, off + k * 5 + 3, none⟩) hb).trans hc3, (hW.cell (p := ⟨b, off + k * 5 + 4, none⟩) hb).trans hc4⟩)
      have Hb1 := Lib.hid (show ∀ W, Below w.heap.size w W → BytesAt W w.heap.size A1 n1 t.b from fun W hW => hb1.below hW)
      have Hb2 := Lib.hid (show ∀ W, Below w.heap.size w W → IntsAt W w.heap.size A3 n3 t.row from fun W hW => hb2.below hW)
      have hts := thingSize_le (List.mem_of_getElem? ht)
      have hsz : n1 + n3 ≤ 100000 := by
        have h1 := hb1.len
        have h2 := hb2.len
        unfold thingSize at hts
        omega
      have hp0 := pickI_nonneg t.kind 4
      have hp4 := pickI_lt t.kind 4 (by omega)
      have hp : pickI t.kind 4 = 0 ∨ pickI t.kind 4 = 1 ∨ pickI t.kind 4 = 2 ∨ pickI t.kind 4 = 3 := by omega
      have Hnx := Lib.hid (show putThings (ts.take (k + 1)) (some []) = putThing t st by rw [hst]; exact putThings_succ ht _)
      have Hln := Lib.hid (show len + 6 + n1 + 6 * n3 ≤ 6 * (k + 1) + 6 * thingsTot (ts.take (k + 1)) by
        rw [thingsTot_succ ht, thingSize, hb1.len, hb2.len]
        omega)
      clear hc0 hc1 hc2 hc3 hc4 hb1 hb2 hts hp0 hp4 hst hle htl h6 h9 ht hD htot hT
      rcases hp with hp | hp | hp | hp
      · have Hpt := Lib.hid (show ∀ s, putThing t s = putNum t.n s from fun s => by rw [putThing, if_pos hp])
        have Hp := Lib.hid hp
        clear hp
        obtain ⟨hcx0, hcx1, hcx2, hcx3, hcx4⟩ := HC.out wr hbw
        go_wp2_with (go_at_call 38; refine (Pick_is t.kind 4 0 _ Hp.out hki.1 hki.2 (by omega)).mono ?_; rintro e w1 ⟨rfl, rfl⟩)
        refine (WNumber1_any _ _ _ vw lw bw wr.heap.size _ t.n (hd.grow (Grow.alloc _ _)).wr (Blk.new _ _ _) (hd.wr.old (Nat.le_refl _)) (by omega)).mono ?_
        rintro e w2 ⟨rfl, vw2, lw2, bw2, h1, h2, h3, h4⟩
        have hd2 := (hd.grow (Grow.alloc _ _)).left h1 h2
        have hbw2 : Below w.heap.size w w2 := Below.trans (hbw.alloc hbz _) (h2.keep.below hd.wr.ge (by simp; omega))
        clear hcx0 hcx1 hcx2 hcx3 hcx4
        obtain ⟨hcx0, hcx1, hcx2, hcx3, hcx4⟩ := HC.out w2 hbw2
        go_wp2_with fail
        refine (vNumber_any w2 _ _ vv lv bv t.n hd2.vr (by omega)).mono ?_
        rintro e w3 ⟨rfl, vv3, lv3, bv3, h5, h6, h7, h8⟩
        have hd3 := hd2.right h5 h6
        have hbw3 : Below w.heap.size w w3 := Below.trans hbw2 (h6.keep.below hd2.vr.ge hbw2.size)
        clear hcx0 hcx1 hcx2 hcx3 hcx4
        have HD2 := Lib.hid (show DuoAt w w.heap.size w.heap.size (w.heap.size + 1) (putThing t st) (len + 6 + n1 + 6 * n3) w3 from ⟨_, _, _, _, _, _, hd3, by rw [h3, hst1, Hpt.out], by rw [h7, hst2, Hpt.out], by omega, by omega, hbw3⟩)
        obtain ⟨hcx0, hcx1, hcx2, hcx3, hcx4⟩ := HC.out w3 hbw3
        clear h1 h2 h3 h4 h5 h6 h7 h8 hd2 hd3 hbw2
        clear hcx0 hcx1 hcx2 hcx3 hcx4
        obtain ⟨vw5, lw5, bw5, vv5, lv5, bv5, hd5, hs5, hs6, hl5, hl6, hb5⟩ := HD2.out
        go_wp2_with fail
        refine (WBytes_any _ _ _ vw5 lw5 bw5 hd5.wr (by omega)).mono ?_
        rw [hs5]
        rintro e w7 ⟨r7, rfl, hown7, hg7⟩
        obtain ⟨A7, c7, rfl, hm7, hcm7, hr7⟩ := own_reads hown7
        go_wp2_with fail
        refine (vBytes_any _ _ _ vv5 lv5 bv5 (hd5.grow hg7).vr (by omega)).mono ?_
        rw [hs6]
        rintro e w8 ⟨r8, rfl, hown8, hg8⟩
        obtain ⟨A8, c8, rfl, hm8, hcm8, hr8⟩ := own_reads hown8
        have hr7' := hr7.below hg8
        have hmm7 := Nat.le_trans hm7 hcm7
        have hmm8 := Nat.le_trans hm8 hcm8
        have hgg := hg7.trans hg8
        clear hown7 hown8 hm7 hm8 hcm7 hcm8 hr7 hd5 hs5 hs6 hl5 hl6 hb5
        go_wp2_with fail
        refine (bytes02_any w8 _ _ A7 A8 _ c7 _ c8 _ _ hr7' hr8 hmm7 hmm8).mono ?_
        rw [sameL_self]
        rintro e w9 ⟨rfl, q9, rfl⟩
        have HD3 := Lib.hid (HD2.out.grow (hgg.trans (Grow.drewN _ q9)))
        clear hr7' hr8 hmm7 hmm8 hgg hg7 hg8
        go_wp2
        go_roundw
        case rel => exact ⟨k + 1, by omega, by go_num, by rw [Hnx.out]; exact HD3.out.more Hln.out⟩
        case measure => simp [intOf]; omega
      · have Hpt := Lib.hid (show ∀ s, putThing t s = putFixed (u32of t.n).toNat s from fun s => by rw [putThing, if_neg (by omega), if_pos hp])
        have Hp := Lib.hid hp
        clear hp
        obtain ⟨hcx0, hcx1, hcx2, hcx3, hcx4⟩ := HC.out wr hbw
        go_wp2_with (go_at_call 38; refine (Pick_is t.kind 4 1 _ Hp.out hki.1 hki.2 (by omega)).mono ?_; rintro e w1 ⟨rfl, rfl⟩)
        rw [u32of_val]
        refine (WFixed1_any _ _ _ vw lw bw (u32of t.n) hd.wr (by omega)).mono ?_
        rintro e w2 ⟨rfl, vw2, lw2, bw2, h1, h2, h3, h4⟩
        have hd2 := hd.left h1 h2
        have hbw2 : Below w.heap.size w w2 := Below.trans hbw (h2.keep.below hd.wr.ge hbz)
        clear hcx0 hcx1 hcx2 hcx3 hcx4
        obtain ⟨hcx0, hcx1, hcx2, hcx3, hcx4⟩ := HC.out w2 hbw2
        go_wp2_with fail
        rw [u32of_val]
        refine (vFixed_any w2 _ _ vv lv bv (u32of t.n) hd2.vr (by omega)).mono ?_
        rintro e w3 ⟨rfl, vv3, lv3, bv3, h5, h6, h7, h8⟩
        have hd3 := hd2.right h5 h6
        have hbw3 : Below w.heap.size w w3 := Below.trans hbw2 (h6.keep.below hd2.vr.ge hbw2.size)
        clear hcx0 hcx1 hcx2 hcx3 hcx4
        have HD2 := Lib.hid (show DuoAt w w.heap.size w.heap.size (w.heap.size + 1) (putThing t st) (len + 6 + n1 + 6 * n3) w3 from ⟨_, _, _, _, _, _, hd3, by rw [h3, hst1, Hpt.out], by rw [h7, hst2, Hpt.out], by omega, by omega, hbw3⟩)
        obtain ⟨hcx0, hcx1, hcx2, hcx3, hcx4⟩ := HC.out w3 hbw3
        clear h1 h2 h3 h4 h5 h6 h7 h8 hd2 hd3 hbw2
        clear hcx0 hcx1 hcx2 hcx3 hcx4
        obtain ⟨vw5, lw5, bw5, vv5, lv5, bv5, hd5, hs5, hs6, hl5, hl6, hb5⟩ := HD2.out
        go_wp2_with fail
        refine (WBytes_any _ _ _ vw5 lw5 bw5 hd5.wr (by omega)).mono ?_
        rw [hs5]
        rintro e w7 ⟨r7, rfl, hown7, hg7⟩
        obtain ⟨A7, c7, rfl, hm7, hcm7, hr7⟩ := own_reads hown7
        go_wp2_with fail
        refine (vBytes_any _ _ _ vv5 lv5 bv5 (hd5.grow hg7).vr (by omega)).mono ?_
        rw [hs6]
        rintro e w8 ⟨r8, rfl, hown8, hg8⟩
        obtain ⟨A8, c8, rfl, hm8, hcm8, hr8⟩ := own_reads hown8
        have hr7' := hr7.below hg8
        have hmm7 := Nat.le_trans hm7 hcm7
        have hmm8 := Nat.le_trans hm8 hcm8
        have hgg := hg7.trans hg8
        clear hown7 hown8 hm7 hm8 hcm7 hcm8 hr7 hd5 hs5 hs6 hl5 hl6 hb5
        go_wp2_with fail
        refine (bytes02_any w8 _ _ A7 A8 _ c7 _ c8 _ _ hr7' hr8 hmm7 hmm8).mono ?_
        rw [sameL_self]
        rintro e w9 ⟨rfl, q9, rfl⟩
        have HD3 := Lib.hid (HD2.out.grow (hgg.trans (Grow.drewN _ q9)))
        clear hr7' hr8 hmm7 hmm8 hgg hg7 hg8
        go_wp2
        go_roundw
        case rel => exact ⟨k + 1, by omega, by go_num, by rw [Hnx.out]; exact HD3.out.more Hln.out⟩
        case measure => simp [intOf]; omega
      · have Hpt := Lib.hid (show ∀ s, putThing t s = putText t.b s from fun s => by rw [putThing, if_neg (by omega), if_neg (by omega), if_pos hp])
        have Hp := Lib.hid hp
        clear hp
        obtain ⟨hcx0, hcx1, hcx2, hcx3, hcx4⟩ := HC.out wr hbw
        go_wp2_with (go_at_call 38; refine (Pick_is t.kind 4 2 _ Hp.out hki.1 hki.2 (by omega)).mono ?_; rintro e w1 ⟨rfl, rfl⟩)
        refine (LentBytes_any wr w.heap.size A1 n1 c1 t.b (Hb1.out wr hbw) hbz (by omega)).mono ?_
        rintro e w0 ⟨rfl, hL0, hg0⟩
        have hbw0 : Below w.heap.size w w0 := Below.trans hbw (hg0.mono hbz)
        have hd0 := hd.grow hg0
        have hLl : t.b.length = n1 := (Hb1.out wr hbw).len
        have HLl := Lib.hid hLl
        have hz0 := hL0.lt
        have hR0 : BytesAt (w0.alloc (.cells #[.slice (some ⟨wr.heap.size, 0, none⟩) n1 (n1 + 12)] 22)) (w0.alloc (.cells #[.slice (some ⟨wr.heap.size, 0, none⟩) n1 (n1 + 12)] 22)).heap.size (some ⟨wr.heap.size, 0, none⟩) n1 t.b := by
          have := (LentAt.bytes hL0 hz0).below (Grow.alloc w0 (.cells #[.slice (some ⟨wr.heap.size, 0, none⟩) n1 (n1 + 12)] 22))
          rw [hLl] at this
          exact ReadsAt.more this (by simp)
        have hold : ∀ k, FootS w.heap.size vw k → k ≠ wr.heap.size := fun k hk e => hd.wr.old (Nat.le_refl _) (by rw [← e]; exact hk)
        have HR0 := Lib.hid hR0
        have Hold := Lib.hid hold
        have HL0 := Lib.hid hL0
        clear hLl hR0 hold hL0 hcx0 hcx1 hcx2 hcx3 hcx4
        obtain ⟨hcx0, hcx1, hcx2, hcx3, hcx4⟩ := HC.out w0 hbw0
        go_wp2_with fail
        refine (WText1_any _ _ _ vw lw bw w0.heap.size _ _ n1 (n1 + 12) t.b (hd0.grow (Grow.alloc _ _)).wr (Blk.new _ _ _) HR0.out (fun _ ad e hf => by injection e with e; subst e; exact Hold.out _ hf rfl) (by omega)).mono ?_
        rintro e w2 ⟨rfl, vw2, lw2, bw2, h1, h2, h3, h4⟩
        have hd2 := (hd0.grow (Grow.alloc _ _)).left h1 h2
        have hbw2 : Below w.heap.size w w2 := Below.trans (hbw0.alloc hbw0.size _) (h2.keep.below hd.wr.ge (by have := hbw0.size; simp; omega))
        have HL2 := Lib.hid (show LentAt w2 wr.heap.size t.b from h2.keep.blk (Blk.alloc HL0.out _) (fun hf => Hold.out _ hf rfl))
        clear hcx0 hcx1 hcx2 hcx3 hcx4
        obtain ⟨hcx0, hcx1, hcx2, hcx3, hcx4⟩ := HC.out w2 hbw2
        go_wp2_with fail
        refine (vText_any w2 _ _ vv lv bv A1 n1 c1 t.b hd2.vr (Hb1.out w2 hbw2) (by omega)).mono ?_
        rintro e w3 ⟨rfl, vv3, lv3, bv3, h5, h6, h7, h8⟩
        have hd3 := hd2.right h5 h6
        have hbw3 : Below w.heap.size w w3 := Below.trans hbw2 (h6.keep.below hd2.vr.ge hbw2.size)
        have HL3 := Lib.hid (show LentAt w3 wr.heap.size t.b from h6.keep.blk HL2.out (fun hf => hd.vr.old (Nat.le_refl _) hf))
        clear hcx0 hcx1 hcx2 hcx3 hcx4
        have HD2 := Lib.hid (show DuoAt w w.heap.size w.heap.size (w.heap.size + 1) (putThing t st) (len + 6 + n1 + 6 * n3) w3 from ⟨_, _, _, _, _, _, hd3, by rw [h3, hst1, Hpt.out], by rw [h7, hst2, Hpt.out], by omega, by omega, hbw3⟩)
        obtain ⟨hcx0, hcx1, hcx2, hcx3, hcx4⟩ := HC.out w3 hbw3
        clear h1 h2 h3 h4 h5 h6 h7 h8 hd2 hd3 hbw2
        clear hd0
        go_wp2_with fail
        refine (KeptBytes_yes w3 w.heap.size wr.heap.size A1 n1 c1 t.b HL3.out (Hb1.out w3 hbw3) (by omega)).mono ?_
        rintro e w4 ⟨rfl, q4, rfl⟩
        have HD2 := Lib.hid (HD2.out.grow (Grow.drewN _ q4))
        clear hcx0 hcx1 hcx2 hcx3 hcx4
        obtain ⟨vw5, lw5, bw5, vv5, lv5, bv5, hd5, hs5, hs6, hl5, hl6, hb5⟩ := HD2.out
        go_wp2_with fail
        refine (WBytes_any _ _ _ vw5 lw5 bw5 hd5.wr (by omega)).mono ?_
        rw [hs5]
        rintro e w7 ⟨r7, rfl, hown7, hg7⟩
        obtain ⟨A7, c7, rfl, hm7, hcm7, hr7⟩ := own_reads hown7
        go_wp2_with fail
        refine (vBytes_any _ _ _ vv5 lv5 bv5 (hd5.grow hg7).vr (by omega)).mono ?_
        rw [hs6]
        rintro e w8 ⟨r8, rfl, hown8, hg8⟩
        obtain ⟨A8, c8, rfl, hm8, hcm8, hr8⟩ := own_reads hown8
        have hr7' := hr7.below hg8
        have hmm7 := Nat.le_trans hm7 hcm7
        have hmm8 := Nat.le_trans hm8 hcm8
        have hgg := hg7.trans hg8
        clear hown7 hown8 hm7 hm8 hcm7 hcm8 hr7 hd5 hs5 hs6 hl5 hl6 hb5
        go_wp2_with fail
        refine (bytes02_any w8 _ _ A7 A8 _ c7 _ c8 _ _ hr7' hr8 hmm7 hmm8).mono ?_
        rw [sameL_self]
        rintro e w9 ⟨rfl, q9, rfl⟩
        have HD3 := Lib.hid (HD2.out.grow (hgg.trans (Grow.drewN _ q9)))
        clear hr7' hr8 hmm7 hmm8 hgg hg7 hg8
        go_wp2
        go_roundw
        case rel => exact ⟨k + 1, by omega, by go_num, by rw [Hnx.out]; exact HD3.out.more Hln.out⟩
        case measure => simp [intOf]; omega
      · have Hpt := Lib.hid (show ∀ s, putThing t s = putRising t.row s from fun s => by rw [putThing, if_neg (by omega), if_neg (by omega), if_neg (by omega)])
        have Hp := Lib.hid hp
        clear hp
        obtain ⟨hcx0, hcx1, hcx2, hcx3, hcx4⟩ := HC.out wr hbw
        go_wp2_with (go_at_call 38; refine (Pick_is t.kind 4 3 _ Hp.out hki.1 hki.2 (by omega)).mono ?_; rintro e w1 ⟨rfl, rfl⟩)
        refine (WRising1_any _ _ _ vw lw bw A3 n3 c3 t.row hd.wr (ReadsAt.more (Hb2.out wr hbw) hbz) (fun h0 ad e hf => by have h1 := ints_blk (Hb2.out wr hbw) h0 ad e; have h2 := hd.wr.ge _ hf; omega) (by omega)).mono ?_
        rintro e w2 ⟨rfl, vw2, lw2, bw2, h1, h2, h3, h4⟩
        have hd2 := hd.left h1 h2
        have hbw2 : Below w.heap.size w w2 := Below.trans hbw (h2.keep.below hd.wr.ge hbz)
        clear hcx0 hcx1 hcx2 hcx3 hcx4
        obtain ⟨hcx0, hcx1, hcx2, hcx3, hcx4⟩ := HC.out w2 hbw2
        go_wp2_with fail
        refine (vRising_any w2 _ _ vv lv bv A3 n3 c3 t.row hd2.vr (ReadsAt.more (Hb2.out w2 hbw2) hbw2.size) (fun h0 ad e hf => by have h1 := ints_blk (Hb2.out w2 hbw2) h0 ad e; have h2 := hd2.vr.ge _ hf; omega) (by omega)).mono ?_
        rintro e w3 ⟨rfl, vv3, lv3, bv3, h5, h6, h7, h8⟩
        have hd3 := hd2.right h5 h6
        have hbw3 : Below w.heap.size w w3 := Below.trans hbw2 (h6.keep.below hd2.vr.ge hbw2.size)
        clear hcx0 hcx1 hcx2 hcx3 hcx4
        have HD2 := Lib.hid (show DuoAt w w.heap.size w.heap.size (w.heap.size + 1) (putThing t st) (len + 6 + n1 + 6 * n3) w3 from ⟨_, _, _, _, _, _, hd3, by rw [h3, hst1, Hpt.out], by rw [h7, hst2, Hpt.out], by omega, by omega, hbw3⟩)
        obtain ⟨hcx0, hcx1, hcx2, hcx3, hcx4⟩ := HC.out w3 hbw3
        clear h1 h2 h3 h4 h5 h6 h7 h8 hd2 hd3 hbw2
        clear hcx0 hcx1 hcx2 hcx3 hcx4
        obtain ⟨vw5, lw5, bw5, vv5, lv5, bv5, hd5, hs5, hs6, hl5, hl6, hb5⟩ := HD2.out
        go_wp2_with fail
        refine (WBytes_any _ _ _ vw5 lw5 bw5 hd5.wr (by omega)).mono ?_
        rw [hs5]
        rintro e w7 ⟨r7, rfl, hown7, hg7⟩
        obtain ⟨A7, c7, rfl, hm7, hcm7, hr7⟩ := own_reads hown7
        go_wp2_with fail
        refine (vBytes_any _ _ _ vv5 lv5 bv5 (hd5.grow hg7).vr (by omega)).mono ?_
        rw [hs6]
        rintro e w8 ⟨r8, rfl, hown8, hg8⟩
        obtain ⟨A8, c8, rfl, hm8, hcm8, hr8⟩ := own_reads hown8
        have hr7' := hr7.below hg8
        have hmm7 := Nat.le_trans hm7 hcm7
        have hmm8 := Nat.le_trans hm8 hcm8
        have hgg := hg7.trans hg8
        clear hown7 hown8 hm7 hm8 hcm7 hcm8 hr7 hd5 hs5 hs6 hl5 hl6 hb5
        go_wp2_with fail
        refine (bytes02_any w8 _ _ A7 A8 _ c7 _ c8 _ _ hr7' hr8 hmm7 hmm8).mono ?_
        rw [sameL_self]
        rintro e w9 ⟨rfl, q9, rfl⟩
        have HD3 := Lib.hid (HD2.out.grow (hgg.trans (Grow.drewN _ q9)))
        clear hr7' hr8 hmm7 hmm8 hgg hg7 hg8
        go_wp2
        go_roundw
        case rel => exact ⟨k + 1, by omega, by go_num, by rw [Hnx.out]; exact HD3.out.more Hln.out⟩
        case measure => simp [intOf]; omega
    · obtain rfl : n = k := by omega
      have hto : (told st).length ≤ len := by
        rw [← hst1]
        unfold stOf
        split
        · exact Nat.zero_le _
        · exact hl1
      clear hst hle htl hT hD htot
      go_wp2_with fail
      refine (WBytes_any wr _ _ vw lw bw hd.wr (by omega)).mono ?_
      rw [hst1]
      rintro e w2 ⟨r2, rfl, hown2, hg2⟩
      obtain ⟨A2, c2, rfl, -, -, -⟩ := own_reads hown2
      go_wp2_with fail
      refine (WBytes_any w2 _ _ vw lw bw (hd.grow hg2).wr (by omega)).mono ?_
      rw [hst1]
      rintro e w3 ⟨r3, rfl, hown3, hg3⟩
      obtain ⟨A3, c3, rfl, -, -, -⟩ := own_reads hown3
      obtain ⟨L, hL⟩ : ∃ L, L = told st := ⟨_, rfl⟩
      rw [← hL] at hown2 hown3 hto ⊢
      have hG4 : Grow w3 (w3.alloc (.cells #[.slice A2 L.length c2, .slice A3 L.length c3] 22)) := Grow.alloc _ _
      have hR4 : ReadsAt (w3.alloc (.cells #[.slice A2 L.length c2, .slice A3 L.length c3] 22)) (w3.heap.size + 1) 1 (some ⟨w3.heap.size, 0, none⟩) 2 [.slice A2 L.length c2, .slice A3 L.length c3] := ReadsAt.made w3 22 [.slice A2 L.length c2, .slice A3 L.length c3]
      have hV4 : ∀ (j : Nat) (v : Value), [Value.slice A2 L.length c2, .slice A3 L.length c3][j]? = some v → ∃ L', (w3.alloc (.cells #[.slice A2 L.length c2, .slice A3 L.length c3] 22)).ownsRow wr.heap.size 5 1 v L.length L' := fun j v hj => by
        match j, hj with
        | 0, hj => cases hj; exact ⟨_, own_below (own_below hown2 hg3) hG4⟩
        | 1, hj => cases hj; exact ⟨_, own_base (own_below hown3 hG4) hg2.size⟩
      have hd4 : DistV [Value.slice A2 L.length c2, .slice A3 L.length c3] := fun i j v v' b hi hj hij hb hb' => by
        match i, j, hi, hj with
        | 0, 0, _, _ => exact hij rfl
        | 1, 1, _, _ => exact hij rfl
        | 0, 1, hi, hj =>
          cases hi; cases hj
          have h1 := (hown2.lt b hb).2
          have h2 := (hown3.lt b hb').1
          omega
        | 1, 0, hi, hj =>
          cases hi; cases hj
          have h1 := (hown2.lt b hb').2
          have h2 := (hown3.lt b hb).1
          omega
      have hS4 : ∀ k, OwnS [Value.slice A2 L.length c2, .slice A3 L.length c3] k → wr.heap.size ≤ k := fun k ⟨j, v, hv, hvk⟩ => by
        obtain ⟨L', h1⟩ := hV4 j v hv
        exact (h1.lt k hvk).1
      have hz4 : wr.heap.size ≤ (w3.alloc (.cells #[.slice A2 L.length c2, .slice A3 L.length c3] 22)).heap.size := ((hg2.trans hg3).trans hG4).size
      have hGr4 := (hg2.trans hg3).trans hG4
      have HV4 := Lib.hid hV4
      have Hd4 := Lib.hid hd4
      have HS4 := Lib.hid hS4
      have HR4 := Lib.hid hR4
      clear hV4 hd4 hS4 hR4 hown2 hown3 hG4 hg2 hg3 hL
      go_wp2_with fail
      refine (ApartBytes_any _ wr.heap.size (w3.heap.size + 1) _ 2 2 [.slice A2 L.length c2, .slice A3 L.length c3] (fun _ => L.length) HR4.out (by simp) HV4.out Hd4.out hz4 (by omega) (fun _ => by omega)).mono ?_
      rintro e w5 ⟨rfl, hk5, hM5⟩
      have hG5 : Grow wr w5 := Below.trans hGr4 (hk5.below HS4.out hz4)
      have hM0 := hM5 0 _ rfl
      clear hk5 hM5 hGr4
      have hd5 := hd.grow hG5
      go_wp2_with fail
      refine (WBytes_any w5 _ _ vw lw bw hd5.wr (by omega)).mono ?_
      rw [hst1]
      rintro e w7 ⟨r7, rfl, hown7, hg7⟩
      obtain ⟨A7, c7, rfl, hm7, hcm7, hr7⟩ := own_reads hown7
      go_wp2_with fail
      refine (vBytes_any w7 _ _ vv lv bv (hd5.grow hg7).vr (by omega)).mono ?_
      rw [hst2]
      rintro e w8 ⟨r8, rfl, hown8, hg8⟩
      obtain ⟨A8, c8, rfl, hm8, hcm8, hr8⟩ := own_reads hown8
      have hr7' := hr7.below hg8
      have hmm7 := Nat.le_trans hm7 hcm7
      have hmm8 := Nat.le_trans hm8 hcm8
      have hgg := hg7.trans hg8
      clear hown7 hown8 hm7 hm8 hcm7 hcm8 hr7 hd5 hg7 hg8
      go_wp2_with fail
      refine (bytes02_any w8 _ _ A7 A8 _ c7 _ c8 _ _ hr7' hr8 hmm7 hmm8).mono ?_
      rw [sameL_self]
      rintro e w9 ⟨rfl, q9, rfl⟩
      have hG9 := hgg.trans (Grow.drewN w8 q9)
      have hM9 := own_base (own_below hM0 hG9) hbz
      have hGw : Grow w (w8.drewN q9) := Below.trans hbw ((hG5.trans hG9).mono hbz)
      clear hr7' hr8 hmm7 hmm8 hgg hM0
      go_wp2
      go_ret2
      refine ⟨_, (List.range L.length).map fun j : Nat => markB ((0 : Nat) : Int) (j : Int), rfl, ?_, by rw [List.length_map, List.length_range]; omega, hGw⟩
      rw [List.length_map, List.length_range, List.map_map]
      exact hM9
end Go.Proofs.YtcjbeaohmgfgoaaGreat
