/-
  mudlarklaw02.WireBack answers true: whatever is put that can be is got, in its order. The walk of the law's text.
-/
import Derived.Deep.MidRow
import Derived.WalkMore
import Derived.Deep.CutBlock
import Derived.Test.YtcjbeaohmgfgoaaWireRound
import Derived.Test.YtcjbeaohmgfgoaaWireAwake
import Derived.Test.YtcjbeaohmgfgoaaRRising
namespace Go.Proofs.Ytcjbeaohmgfgoaa
open Go.RowKit WireM

/-- how it stands when k things have been put -/
structure Back1 (w : World) (g : Nat) (ts : List ThingM) (k : Nat) (wr : World) : Prop where
  at_ : ∃ v, Wr 47 wr w.heap.size g v (encThings (ts.take k)) false
  below : Below w.heap.size w wr
  len : (encThings (ts.take k)).length ≤ 6 * k + 6 * thingsTot (ts.take k)
  right : ∀ (i : Nat) (t : ThingM), ts[i]? = some t → i < k → rightB t = true

theorem Back1.next {w : World} {g : Nat} {ts : List ThingM} {k : Nat} {wr w1 w2 : World} {t : ThingM} {v : Value} {n1 n2 : Nat} {l : List UInt8} (h : Back1 w g ts k wr) (hk : ts[k]? = some t) (hr : rightB t = true) (hs : thingSize t ≤ 4000) (hl : l = encThings (ts.take k))
    (hv : Wr 47 w1 w.heap.size g v l false) (hw : Below w.heap.size w w1) (e1 : n1 = t.b.length) (e2 : n2 = t.row.length) (hp : PutsTo 47 w1 w.heap.size g v (putThing t (stOf l false)) (l.length + 6 + n1 + 6 * n2) w2) : Back1 w g ts (k + 1) w2 := by
  subst hl
  obtain ⟨v', l', b', h1, h2, h3, h4⟩ := hp
  rw [stOf_false, putThing_right hr hs, ← encThings_succ hk] at h3
  cases b' with
  | true => cases h3
  | false =>
    rw [stOf_false] at h3
    injection h3 with h3
    subst h3
    refine ⟨⟨v', h1⟩, Below.trans hw (h2.keep.below hv.ge hw.size), ?_, fun i t' hi hlt => ?_⟩
    · rw [thingsTot_succ hk, thingSize]
      have := h.len
      omega
    · rcases Nat.lt_or_ge i k with h5 | h5
      · exact h.right i t' hi h5
      · obtain rfl : i = k := by omega
        rw [hk] at hi
        cases hi
        exact hr

theorem thing_range {w : World} {b off k : Nat} {t : ThingM} {A1 A2 : Option Addr} {n1 c1 n2 c2 : Nat} (h0 : w.cell? ⟨b, off + k * 5, none⟩ = some (.int .i64 t.kind)) (h1 : w.cell? ⟨b, off + k * 5 + 1, none⟩ = some (.int .i64 t.n)) (h2 : w.cell? ⟨b, off + k * 5 + 2, none⟩ = some (.int .i64 t.many))
    (h3 : w.cell? ⟨b, off + k * 5 + 3, none⟩ = some (.slice A1 n1 c1)) (h4 : w.cell? ⟨b, off + k * 5 + 4, none⟩ = some (.slice A2 n2 c2)) : w.rangeAt b (off + k * 5) [.int .i64 t.kind, .int .i64 t.n, .int .i64 t.many, .slice A1 n1 c1, .slice A2 n2 c2] := fun j v hj => by
  match j, hj with
  | 0, hj => cases hj; exact h0
  | 1, hj => cases hj; exact h1
  | 2, hj => cases hj; exact h2
  | 3, hj => cases hj; exact h3
  | 4, hj => cases hj; exact h4
/-- how it stands when k things have been got -/
structure Back2 (w : World) (g : Nat) (ts : List ThingM) (behind : List UInt8) (k : Nat) (wr : World) : Prop where
  rd : ∃ A n c, Rd wr g A n c (encThings (ts.drop k) ++ behind) false
  below : Below w.heap.size w wr
/-- what a call of a reader leaves: V says what it answered -/
def gotW (w0 : World) (g : Nat) (A : Option Addr) (n c : Nat) (l : List UInt8) (st : St) (len : Nat) (V : Value → World → Prop) : List Value → World → Prop
  | [], w => Rd w g A n c l false ∧ Keep (Own1 g) w0 w
  | [x], w => RdAt w0 g st len w ∧ V x w
  | _, _ => False
theorem RdAt.grow {w w1 w2 : World} {g : Nat} {st : St} {len : Nat} (h : RdAt w g st len w1) (hg : Grow w1 w2) : RdAt w g st len w2 := by
  obtain ⟨A, n, c, l, bad, h1, h2, h3, h4⟩ := h
  exact ⟨A, n, c, l, bad, h1.grow hg, h2, h3, h4.trans' (Keep.grow hg)⟩
theorem RdAt.both {w0 w w1 : World} {g : Nat} {st : St} {len : Nat} (h : RdAt w g st len w1) (hk : Keep (Own1 g) w0 w) : Keep (Own1 g) w w1 ∧ RdAt w0 g st len w1 := by
  obtain ⟨A, n, c, l, bad, h1, h2, h3, h4⟩ := h
  exact ⟨h4, A, n, c, l, bad, h1, h2, h3, hk.trans' h4⟩
theorem encThings_left (ts : List ThingM) (k : Nat) : (encThings (ts.drop k)).length ≤ (encThings ts).length := by
  have h := encThings_append (ts.take k) (ts.drop k)
  rw [List.take_append_drop] at h
  rw [h, List.length_append]
  omega
theorem RdAt.before {w0 w w1 : World} {g : Nat} {st : St} {len : Nat} (h : RdAt w g st len w1) (hk : Keep (Own1 g) w0 w) : RdAt w0 g st len w1 := by
  obtain ⟨A, n, c, l, bad, h1, h2, h3, h4⟩ := h
  exact ⟨A, n, c, l, bad, h1, h2, h3, hk.trans' h4⟩
theorem gotW.grow {w0 : World} {g : Nat} {A : Option Addr} {n c : Nat} {l : List UInt8} {st : St} {len : Nat} {V : Value → World → Prop} (hV : ∀ x w w2, Grow w w2 → V x w → V x w2) : ∀ (vals : List Value) (w w2 : World), Grow w w2 → gotW w0 g A n c l st len V vals w → gotW w0 g A n c l st len V vals w2
  | [], _, _, hg, h => ⟨h.1.grow hg, h.2.trans' (Keep.grow hg)⟩
  | [_], _, _, hg, h => ⟨h.1.grow hg, hV _ _ _ hg h.2⟩
  | _ :: _ :: _, _, _, _, h => h
theorem gotW.val {w0 w : World} {g : Nat} {A : Option Addr} {n c : Nat} {l : List UInt8} {st : St} {len : Nat} {V : Value → World → Prop} : ∀ {vals : List Value} {u : Value}, gotW w0 g A n c l st len V vals w → vals[0]? = some u → V u w
  | [], _, _, e => by cases e
  | [_], _, h, e => by cases e; exact h.2
  | _ :: _ :: _, _, h, _ => h.elim
/-- an answer that is a value -/
def ansIs (v : Value) : Value → World → Prop := fun x _ => x = v
/-- an answer that is a row of bytes -/
def ansBytes (b : List UInt8) : Value → World → Prop := fun x w => ∃ A c, x = .slice A b.length c ∧ BytesAt w w.heap.size A b.length b
/-- an answer that is a row of ints -/
def ansInts (b : List Int) : Value → World → Prop := fun x w => ∃ A c, x = .slice A b.length c ∧ IntsAt w w.heap.size A b.length b
theorem ansIs.grow {v : Value} : ∀ x w w2, Grow w w2 → ansIs v x w → ansIs v x w2 := fun _ _ _ _ h => h
theorem ansBytes.grow {b : List UInt8} : ∀ x w w2, Grow w w2 → ansBytes b x w → ansBytes b x w2 := fun _ _ _ hg ⟨A, c, h1, h2⟩ => ⟨A, c, h1, (h2.below hg).more hg.size⟩
theorem ansInts.grow {b : List Int} : ∀ x w w2, Grow w w2 → ansInts b x w → ansInts b x w2 := fun _ _ _ hg ⟨A, c, h1, h2⟩ => ⟨A, c, h1, (h2.below hg).more hg.size⟩
theorem Back2.next {w : World} {g : Nat} {ts : List ThingM} {behind : List UInt8} {k : Nat} {wr w1 : World} {len : Nat} (h : Back2 w g ts behind k wr) (hg : w.heap.size ≤ g) (hr : RdAt wr g (some (encThings (ts.drop (k + 1)) ++ behind)) len w1) : ∃ A n c, Rd w1 g A n c (encThings (ts.drop (k + 1)) ++ behind) false ∧ Below w.heap.size w w1 := by
  obtain ⟨A, n, c, l, bad, h1, h2, h3, h4⟩ := hr
  cases bad with
  | true => cases h2
  | false =>
    rw [stOf_false] at h2
    injection h2 with h2
    subst h2
    exact ⟨A, n, c, h1, Below.trans h.below (h4.below (fun q hq => by rw [show q = g from hq]; exact hg) h.below.size)⟩

set_option maxRecDepth 100000 in
set_option maxHeartbeats 4000000 in
theorem back_walk (w : World) (A A2 : Option Addr) (n c n2 c2 : Nat) (ts : List ThingM) (behind : List UInt8) (hT : ThingsAt w w.heap.size A n ts) (hn : n ≤ 1954687338269) (hnc : n ≤ c) (hc : c ≤ maxLen) (hR : BytesAt w w.heap.size A2 n2 behind) (hn2 : n2 ≤ 140737488351232) :
    Calls Try.prog 8 #[.slice A n c, .slice A2 n2 c2] w fun e w' => e = .returned (.bool true) ∧ Below w.heap.size w w' := by
  unfold maxLen at hc
  have bytesTy : AppTy Try.prog 22 5 (.int .u8 0) 1 1 := AppTy.mk' Try.underlying22 (by kernel_rfl) rfl (by decide)
  go_enter Try.func8, Try.ntmps8
  go_wp2_with fail
  refine (awake02_any w).mono ?_
  rintro e w1 ⟨rfl, hg1⟩
  have hT1 := hT.below hg1
  cases hgr : greatB ts n2 with
  | true =>
    have Hgr := Lib.hid hgr
    clear hgr
    go_wp2_with fail
    refine (great_any w1 _ A A2 n c n2 c2 ts hT1 hn hn2).mono ?_
    rw [Hgr.out]
    rintro e w2 ⟨rfl, q, rfl⟩
    go_wp2
    go_ret
    exact ⟨rfl, hg1.trans (Grow.drewN _ _)⟩
  | false =>
    have hgs : ts.length + n2 + thingsTot ts ≤ 4000 := by
      unfold greatB at hgr
      have := of_decide_eq_false hgr
      omega
    have Hgr := Lib.hid hgr
    clear hgr
    go_wp2_with fail
    refine (great_any w1 _ A A2 n c n2 c2 ts hT1 hn hn2).mono ?_
    rw [Hgr.out]
    rintro e w2 ⟨rfl, q, hq⟩
    have hg2 : Grow w w2 := by rw [← hq]; exact hg1.trans (Grow.drewN _ _)
    clear hq Hgr hT1 hg1
    have hlen := Lib.hid hT.len
    have hgs2 : thingsTot ts ≤ 4000 := by omega
    have hgs3 : n2 ≤ 4000 := by omega
    have hn3 : n ≤ 4000 := by rw [← hlen.out]; omega
    have hI0 : Back1 w w2.heap.size ts 0 (w2.alloc (.cells #[.slice none 0 0, .bool false] 47)) :=
      ⟨⟨_, Blk.new _ _ _, World.ownsRow_nil _ _ _ _, hg2.size⟩, hg2.trans (Grow.alloc _ _), by simp [encThings], fun i t _ h => absurd h (by omega)⟩
    have hg2z := hg2.size
    clear hgs hg2
    go_wp2_with fail
    go_loopw [6] (fun v6 wr => ∃ k : Nat, k ≤ n ∧ v6 = .int .i64 (k : Int) ∧ Back1 w w2.heap.size ts k wr) (fun v6 _ => n - (intOf v6).toNat)
    case atStart => exact ⟨0, by omega, rfl, hI0⟩
    case round =>
      clear hI0
      obtain ⟨k, hk, rfl, hI⟩ := hrel
      by_cases hlt : k < n
      · obtain ⟨t, ht⟩ : ∃ t, ts[k]? = some t := ⟨_, List.getElem?_eq_getElem (by rw [hlen.out]; exact hlt)⟩
        have hTr := hT.below hI.below
        obtain ⟨b, off, A1, n1, c1, A3, n3, c3, rfl, hb, hc0, hc1, hc2, hc3, hc4, hcs, hb1, hb2⟩ := hTr.at_ ht
        obtain ⟨A1', n1', c1', A3', n3', c3', he, hki, -, -, ⟨h4, h5, h6⟩, ⟨h7, h8, h9⟩, -⟩ := hcs
        simp only [List.cons.injEq, Value.slice.injEq, and_true, true_and] at he
        obtain ⟨⟨rfl, rfl, rfl⟩, rfl, rfl, rfl⟩ := he
        have Hld := Lib.hid (thing_range hc0 hc1 hc2 hc3 hc4)
        have Ht := Lib.hid ht
        clear hc0 hc1 hc2 hc3 hc4 ht hTr h6 h9
        obtain ⟨r, hr⟩ : ∃ r, r = rightB t := ⟨_, rfl⟩
        have Hr := Lib.hid hr
        have hbz := hI.below.size
        clear hr
        go_wp2_with (refine wpList_load_mid rfl 51 (.tmp 25) rfl b (off + k * 5) rfl _ _ Hld.out Try.underlying51 rfl (by kernel_rfl) ?_)
        refine (right_any wr w.heap.size t A1 n1 c1 A3 n3 c3 hb2 hbz (by omega) r Hr).mono ?_
        rintro e w3 ⟨rfl, hg3⟩
        have hbw3 : Below w.heap.size w w3 := Below.trans hI.below (hg3.mono hbz)
        cases r with
        | false =>
          go_wp2
          go_ret
          exact ⟨rfl, hbw3⟩
        | true =>
          have Hld3 := Lib.hid (show w3.rangeAt b (off + k * 5) _ from fun j v hj => (hg3.cell (p := ⟨b, off + k * 5 + j, none⟩) (Nat.lt_of_lt_of_le hb hbz)).trans (Hld.out j v hj))
          obtain ⟨v, hv⟩ := hI.at_
          have hv3 := hv.grow hg3
          have hll := hI.len
          have htt := thingsTot_le ts k
          have hts := thingSize_le (List.mem_of_getElem? Ht.out)
          have hs1 := hb1.len
          have hs2 := hb2.len
          have hsz : thingSize t ≤ 4000 := by omega
          have hn13 : n1 + n3 ≤ 4000 := by unfold thingSize at hsz; omega
          obtain ⟨L, hL⟩ : ∃ L, L = encThings (ts.take k) := ⟨_, rfl⟩
          rw [← hL] at hv3 hll
          have hLb : L.length + 6 + n1 + 6 * n3 ≤ 140737488355328 := by omega
          have HL := Lib.hid hL
          have Hs1 := Lib.hid hs1
          have Hs2 := Lib.hid hs2
          have hbz3 := hbw3.size
          have hb13 : BytesAt w3 w.heap.size A1 n1 t.b := ReadsAt.keep hb1 fun p hp => hg3.cell (Nat.lt_of_lt_of_le hp hbz)
          have hb23 : IntsAt w3 w.heap.size A3 n3 t.row := ReadsAt.keep hb2 fun p hp => hg3.cell (Nat.lt_of_lt_of_le hp hbz)
          clear hL hv hll htt hts hs1 hs2 Hld hb1 hb2
          go_wp2_with (refine wpList_load_mid rfl 51 (.tmp 32) rfl b (off + k * 5) rfl _ _ Hld3.out Try.underlying51 rfl (by kernel_rfl) ?_)
          refine (puts_any w3 w.heap.size w2.heap.size v L false t A1 n1 c1 A3 n3 c3 hv3 hb13 hb23 hbz3 hki.1 hki.2 hLb _ (Lib.hid rfl)).mono ?_
          rintro e w4 ⟨rfl, hp4⟩
          have hI4 := hI.next Ht.out Hr.out.symm hsz HL.out hv3 hbw3 Hs1.out.symm Hs2.out.symm hp4
          clear hp4 hv3 hb13 hb23 hI Hld3
          go_wp2
          go_roundw
          case rel => exact ⟨k + 1, by omega, by go_num, hI4⟩
          case measure => simp [intOf]; omega
      · obtain rfl : k = n := by omega
        obtain ⟨v, hv⟩ := hI.at_
        have hright := Lib.hid hI.right
        have hbel := hI.below
        have hll := hI.len
        have htt := thingsTot_le ts k
        have htk : ts.take k = ts := List.take_of_length_le (by rw [hlen.out]; exact Nat.le_refl _)
        rw [htk] at hv hll
        have hll2 : (encThings ts).length ≤ 48000 := by omega
        have hRr := hR.below hbel
        clear hI hll htt htk
        go_wp2_with fail
        refine (WBytes_any wr _ _ v _ _ hv (by omega)).mono ?_
        rw [stOf_false, told]
        rintro e w5 ⟨r5, rfl, hown5, hg5⟩
        have hbel5 : Below w.heap.size w w5 := Below.trans hbel (hg5.mono hbel.size)
        have hR5 : BytesAt w5 w.heap.size A2 n2 behind := hR.below hbel5
        have hz5 : wr.heap.size ≤ w5.heap.size := hg5.size
        have hw5 := hbel5.size
        clear hv hRr hg5
        go_wp2_with (at_builtin; refine wpList_append_reads _ rfl (.tmp 36) (.tmp 37) rfl bytesTy rfl hown5 rfl hR5 (b8_one behind) (by simp only [maxLen]; omega) (by omega) hz5 ?_; intro v6 w6 hown6 hgrow6 hat6)
        obtain ⟨all, hall⟩ : ∃ all, all = encThings ts ++ behind := ⟨_, rfl⟩
        have hb2l := hR.len
        have hown7 : w6.ownsRow wr.heap.size 5 1 v6 all.length (all.map b8) := by
          rw [hall, List.length_append, List.map_append, hb2l]
          exact hown6
        have hal : all.length ≤ 52000 := by rw [hall, List.length_append, hb2l]; omega
        have hbel6 : Below w.heap.size w w6 := Below.trans hbel5 ((Keep.grown hgrow6).below (fun q hq => by have := (hown5.lt q hq).1; have := hbel.size; omega) hw5)
        obtain ⟨A6, c6, rfl, hm6, hc6, hr6⟩ := own_reads hown7
        have Hall := Lib.hid hall
        have hB2 : Hid (behind.length = n2) := hb2l
        clear hown7 hown6 hgrow6 hat6 hown5 hR5 hall hb2l hbel hbel5 hz5 hw5
        go_wp2_with fail
        refine (Read_any w6 _ A6 all.length c6 all hr6 (Nat.le_refl _) (by omega)).mono ?_
        rintro e w7 ⟨g, A7, c7, rfl, hz7, hd7, hg7⟩
        have hgz : w.heap.size ≤ g := Nat.le_trans hbel6.size hz7
        have hJ0 : Back2 w g ts behind 0 w7 := ⟨⟨A7, _, c7, by rw [List.drop_zero, ← Hall.out]; exact hd7⟩, Below.trans hbel6 (hg7.mono hbel6.size)⟩
        clear hr6 hm6 hc6 hd7 hg7 hz7 hbel6
        go_wp2_with fail
        go_loopw [8] (fun v8 wx => ∃ j : Nat, j ≤ k ∧ v8 = .int .i64 (j : Int) ∧ Back2 w g ts behind j wx) (fun v8 _ => k - (intOf v8).toNat)
        case atStart => exact ⟨0, by omega, rfl, hJ0⟩
        case round =>
          clear hJ0
          obtain ⟨j, hj, rfl, hJ⟩ := hrel
          obtain ⟨⟨AR, nR, cR, hd⟩, hbw⟩ := hJ
          by_cases hlt2 : j < k
          · obtain ⟨t, ht⟩ : ∃ t, ts[j]? = some t := ⟨_, List.getElem?_eq_getElem (by rw [hlen.out]; exact hlt2)⟩
            have hTr := hT.below hbw
            obtain ⟨b, off, A1, n1, c1, A3, n3, c3, rfl, hb, hc0, hc1, hc2, hc3, hc4, hcs, hb1, hb2⟩ := hTr.at_ ht
            obtain ⟨A1', n1', c1', A3', n3', c3', he, hki, -, -, ⟨h4, h5, h6⟩, ⟨h7, h8, h9⟩, -⟩ := hcs
            simp only [List.cons.injEq, Value.slice.injEq, and_true, true_and] at he
            obtain ⟨⟨rfl, rfl, rfl⟩, rfl, rfl, rfl⟩ := he
            have hrt := hright.out j t ht hlt2
            have hts := thingSize_le (List.mem_of_getElem? ht)
            have hsz : thingSize t ≤ 4000 := by omega
            have hp0 := pickI_nonneg t.kind 4
            have hp4 := pickI_lt t.kind 4 (by omega)
            have hp : pickI t.kind 4 = 0 ∨ pickI t.kind 4 = 1 ∨ pickI t.kind 4 = 2 ∨ pickI t.kind 4 = 3 := by omega
            have hbf : ¬ Own1 g b := fun h => by rw [show b = g from h] at hb; omega
            have hzb : b < wr.heap.size := Nat.lt_of_lt_of_le hb hbw.size
            have hJ : Back2 w g ts behind j wr := ⟨⟨AR, nR, cR, hd⟩, hbw⟩
            have hLl : (encThings (ts.drop j) ++ behind).length ≤ 52000 := by
              rw [List.length_append, hB2.out]
              have := encThings_left ts j
              omega
            obtain ⟨L, hL⟩ : ∃ L, L = encThings (ts.drop j) ++ behind := ⟨_, rfl⟩
            obtain ⟨L2, hL2⟩ : ∃ L2, L2 = encThings (ts.drop (j + 1)) ++ behind := ⟨_, rfl⟩
            have hLe : encThings (ts.drop j) ++ behind = encThing t ++ L2 := by rw [hL2, encThings_drop ht, List.append_assoc]
            rw [← hL] at hd hLl
            have HL := Lib.hid hL
            have HL2 := Lib.hid hL2
            have Hle := Lib.hid hLe
            have hn14 : n1 ≤ 4000 ∧ n3 ≤ 4000 := by
              have h1 := hb1.len
              have h2 := hb2.len
              unfold thingSize at hsz
              omega
            obtain ⟨hn1, hn3⟩ := hn14
            have htb : t.b.length ≤ 4000 := by unfold thingSize at hsz; omega
            have htr : t.row.length ≤ 4000 := by unfold thingSize at hsz; omega
            have Hb1 := Lib.hid (show ∀ w3, Keep (Own1 g) wr w3 → BytesAt w3 w.heap.size A1 n1 t.b from fun w3 hk => ReadsAt.keep hb1 fun p hp => hk.cell (Nat.lt_of_lt_of_le hp hbw.size) fun h => by rw [show p.block = g from h] at hp; omega)
            have Hb2 := Lib.hid (show ∀ w3, Keep (Own1 g) wr w3 → IntsAt w3 w.heap.size A3 n3 t.row from fun w3 hk => ReadsAt.keep hb2 fun p hp => hk.cell (Nat.lt_of_lt_of_le hp hbw.size) fun h => by rw [show p.block = g from h] at hp; omega)
            clear hp0 hp4 hL hL2 hLe ht hts hTr h6 h9 hright hbw
            rcases hp with hp | hp | hp | hp
            · have Hg := Lib.hid (show num t.n (some L) = (t.n.toNat, some L2) by rw [HL.out, Hle.out]; exact got_num hrt L2 hp)
              have Hnn := Lib.hid (show ((t.n.toNat : Nat) : Int) = t.n by have := (right_n hrt).1; omega)
              have Hp := Lib.hid hp
              clear hp
              go_upto_block 4 with (go_at_call 12; refine (Pick_is t.kind 4 0 _ Hp.out hki.1 hki.2 (by omega)).mono ?_; rintro e w8 ⟨rfl, rfl⟩)
              go_cut [9] from 52 to 107 (fun v9 wx => v9 = .bool true ∧ RdAt wr g (some L2) L.length wx)
              case first Jx Kx hJx hMx =>
                go_upto_region 20 with (fail)
                refine wp_region_stages (by kernel_rfl) ?_
                refine anyOrder_start [6] (Keep (Own1 g)) (gotW wr g AR nR cR L (some L2) L.length (ansIs (.int .i64 t.n))) (FactsOn [.is (.pointer (some ⟨g, 0, none⟩)), .is (.slice (some ⟨b, off, none⟩) k c), .is (.int .i64 (j : Int)), .is (.pointer (some ⟨b, off + j * 5, none⟩)), .is (.pointer (some ⟨b, off + j * 5 + 1, none⟩)), .is (.int .i64 t.n), .any, .is (.slice (some ⟨b, off, none⟩) k c), .is (.int .i64 (j : Int)), .is (.pointer (some ⟨b, off + j * 5, none⟩)), .is (.pointer (some ⟨b, off + j * 5 + 1, none⟩)), .is (.int .i64 t.n), .is (.bool true), .is (.bool true)]) (fun i => 99) keep_trans keep_grow (gotW.grow ansIs.grow) (factsOn_mono _) (by kernel_rfl) (by kernel_rfl) ⟨hd, Keep.refl _ _⟩ ?_ ?_
                · refine ⟨?_, ?_, ?_, ?_, ?_, ?_, ?_, ?_, ?_, ?_, ?_, ?_, ?_, ?_, trivial⟩
                  · refine stageOf_free rfl (fun _ _ _ _ _ _ => wanted_none rfl) ?_
                    intro us vals w3 a' ha hle hW hd hv K hK
                    have q7 : a'.tmps[7]? = some (.pointer (some ⟨g, 0, none⟩)) := by rw [ha.out]; kernel_rfl
                    exact step_value (w2 := w3) (by go_simp) (hK _ _ (Grow.refl _) rfl)
                  · refine stageOf_free rfl (fun _ _ _ _ _ _ => wanted_none rfl) ?_
                    intro us vals w3 a' ha hle hW hd hv K hK
                    have q0 : a'.tmps[0]? = some (.slice (some ⟨b, off, none⟩) k c) := by rw [ha.out]; kernel_rfl
                    exact step_value (w2 := w3) (by go_simp) (hK _ _ (Grow.refl _) rfl)
                  · refine stageOf_free rfl (fun _ _ _ _ _ _ => wanted_none rfl) ?_
                    intro us vals w3 a' ha hle hW hd hv K hK
                    have q8 : a'.tmps[8]? = some (.int .i64 (j : Int)) := by rw [ha.out]; kernel_rfl
                    exact step_value (w2 := w3) (by go_simp) (hK _ _ (Grow.refl _) rfl)
                  · refine stageOf_free rfl (fun _ _ _ _ _ _ => wanted_none rfl) ?_
                    intro us vals w3 a' ha hle hW hd hv K hK
                    obtain ⟨d1, d2, _⟩ := hd
                    have q69 : a'.tmps[69]? = some (us 1) := by rw [ha.out]; kernel_rfl
                    rw [show us 1 = .slice (some ⟨b, off, none⟩) k c from d1] at q69
                    have q70 : a'.tmps[70]? = some (us 2) := by rw [ha.out]; kernel_rfl
                    rw [show us 2 = .int .i64 (j : Int) from d2] at q70
                    refine step_value (v := .pointer (some ⟨b, off + j * 5, none⟩)) (w2 := w3) ?_ (hK _ _ (Grow.refl _) rfl)
                    go_simp
                    (try (intro h; omega))
                  · refine stageOf_free rfl (fun _ _ _ _ _ _ => wanted_none rfl) ?_
                    intro us vals w3 a' ha hle hW hd hv K hK
                    obtain ⟨d3, _⟩ := hd
                    have q71 : a'.tmps[71]? = some (us 3) := by rw [ha.out]; kernel_rfl
                    rw [show us 3 = .pointer (some ⟨b, off + j * 5, none⟩) from d3] at q71
                    refine step_value (v := .pointer (some ⟨b, off + j * 5 + 1, none⟩)) (w2 := w3) ?_ (hK _ _ (Grow.refl _) rfl)
                    go_simp
                  · refine stageOf_free rfl (fun _ _ _ _ _ _ => wanted_none rfl) ?_
                    intro us vals w3 a' ha hle hW hd hv K hK
                    obtain ⟨d4, _⟩ := hd
                    have q72 : a'.tmps[72]? = some (us 4) := by rw [ha.out]; kernel_rfl
                    rw [show us 4 = .pointer (some ⟨b, off + j * 5 + 1, none⟩) from d4] at q72
                    have hc : w3.cell? ⟨b, off + j * 5 + 1, none⟩ = some (.int .i64 t.n) := (hle.cell (p := ⟨b, off + j * 5 + 1, none⟩) hzb hbf).trans hc1
                    refine step_value (v := .int .i64 t.n) (w2 := w3) ?_ (hK _ _ (Grow.refl _) rfl)
                    go_simp
                  · refine stageOf_mem (t := 0) rfl ?_
                    intro us vals w3 a' ha hle hW hd hv
                    obtain ⟨d0, d5, _⟩ := hd
                    obtain rfl := List.eq_nil_of_length_eq_zero (Nat.le_zero.1 (show vals.length ≤ 0 from Nat.le_of_eq hv))
                    refine ⟨wanted_none rfl, fun K hK => ?_⟩
                    have q68 : a'.tmps[68]? = some (us 0) := by rw [ha.out]; kernel_rfl
                    rw [show us 0 = .pointer (some ⟨g, 0, none⟩) from d0] at q68
                    have q73 : a'.tmps[73]? = some (us 5) := by rw [ha.out]; kernel_rfl
                    rw [show us 5 = .int .i64 t.n from d5] at q73
                    refine step_call (f := 31) (args := #[.pointer (some ⟨g, 0, none⟩), .int .i64 t.n]) (by go_simp) ?_
                    have hn := RNumber_any w3 g AR nR cR L false t.n hW.1
                    rw [stOf_false, Hg.out] at hn
                    refine hn.mono ?_
                    rintro e w4 ⟨rfl, hR4⟩
                    obtain ⟨hk4, hR5⟩ := hR4.both hW.2
                    exact ⟨_, rfl, hK _ _ hk4 ⟨hR5, by show _ = _; rw [Hnn.out]⟩⟩
                  · refine stageOf_free rfl (fun _ _ _ _ _ _ => wanted_none rfl) ?_
                    intro us vals w3 a' ha hle hW hd hv K hK
                    have q0 : a'.tmps[0]? = some (.slice (some ⟨b, off, none⟩) k c) := by rw [ha.out]; kernel_rfl
                    exact step_value (w2 := w3) (by go_simp) (hK _ _ (Grow.refl _) rfl)
                  · refine stageOf_free rfl (fun _ _ _ _ _ _ => wanted_none rfl) ?_
                    intro us vals w3 a' ha hle hW hd hv K hK
                    have q8 : a'.tmps[8]? = some (.int .i64 (j : Int)) := by rw [ha.out]; kernel_rfl
                    exact step_value (w2 := w3) (by go_simp) (hK _ _ (Grow.refl _) rfl)
                  · refine stageOf_free rfl (fun _ _ _ _ _ _ => wanted_none rfl) ?_
                    intro us vals w3 a' ha hle hW hd hv K hK
                    obtain ⟨d7, d8, _⟩ := hd
                    have q75 : a'.tmps[75]? = some (us 7) := by rw [ha.out]; kernel_rfl
                    rw [show us 7 = .slice (some ⟨b, off, none⟩) k c from d7] at q75
                    have q76 : a'.tmps[76]? = some (us 8) := by rw [ha.out]; kernel_rfl
                    rw [show us 8 = .int .i64 (j : Int) from d8] at q76
                    refine step_value (v := .pointer (some ⟨b, off + j * 5, none⟩)) (w2 := w3) ?_ (hK _ _ (Grow.refl _) rfl)
                    go_simp
                    (try (intro h; omega))
                  · refine stageOf_free rfl (fun _ _ _ _ _ _ => wanted_none rfl) ?_
                    intro us vals w3 a' ha hle hW hd hv K hK
                    obtain ⟨d9, _⟩ := hd
                    have q77 : a'.tmps[77]? = some (us 9) := by rw [ha.out]; kernel_rfl
                    rw [show us 9 = .pointer (some ⟨b, off + j * 5, none⟩) from d9] at q77
                    refine step_value (v := .pointer (some ⟨b, off + j * 5 + 1, none⟩)) (w2 := w3) ?_ (hK _ _ (Grow.refl _) rfl)
                    go_simp
                  · refine stageOf_free rfl (fun _ _ _ _ _ _ => wanted_none rfl) ?_
                    intro us vals w3 a' ha hle hW hd hv K hK
                    obtain ⟨d10, _⟩ := hd
                    have q78 : a'.tmps[78]? = some (us 10) := by rw [ha.out]; kernel_rfl
                    rw [show us 10 = .pointer (some ⟨b, off + j * 5 + 1, none⟩) from d10] at q78
                    have hc : w3.cell? ⟨b, off + j * 5 + 1, none⟩ = some (.int .i64 t.n) := (hle.cell (p := ⟨b, off + j * 5 + 1, none⟩) hzb hbf).trans hc1
                    refine step_value (v := .int .i64 t.n) (w2 := w3) ?_ (hK _ _ (Grow.refl _) rfl)
                    go_simp
                  · refine stageOf_free rfl (fun _ _ _ _ _ _ => wanted_none rfl) ?_
                    intro us vals w3 a' ha hle hW hd hv K hK
                    obtain ⟨d6, d11, _⟩ := hd
                    have q74 : a'.tmps[74]? = some (us 6) := by rw [ha.out]; kernel_rfl
                    have q79 : a'.tmps[79]? = some (us 11) := by rw [ha.out]; kernel_rfl
                    rw [show us 11 = .int .i64 t.n from d11] at q79
                    have hx : us 6 = .int .i64 t.n := gotW.val hW d6
                    rw [hx] at q74
                    refine step_value (v := .bool true) (w2 := w3) ?_ (hK _ _ (Grow.refl _) rfl)
                    go_simp
                  · refine stageOf_free rfl (fun _ _ _ _ _ _ => wanted_none rfl) ?_
                    intro us vals w3 a' ha hle hW hd hv K hK
                    obtain ⟨d12, _, _, _, _, _, _, _, _, _, _, _, _, _, _, _⟩ := hd
                    have q80 : a'.tmps[80]? = some (us 12) := by rw [ha.out]; kernel_rfl
                    rw [show us 12 = .bool true from d12] at q80
                    exact step_value (w2 := w3) (by go_simp) (hK _ _ (Grow.refl _) rfl)
                · intro us vals w3 hle hvl hV _ hfa
                  obtain ⟨x1, rfl⟩ := List.length_eq_one_iff.1 hvl
                  have h9 : us 13 = .bool true := hfa 13 (by decide) rfl
                  have hV1 := hV.1
                  (try simp only [Exit.inBlock, Exit.then])
                  simp only [fills, Act.put, List.setIfInBounds_toArray, List.set_cons_succ, List.set_cons_zero, Nat.zero_add, Nat.reduceAdd]
                  refine hMx _ _ (Met.intro (hJx _ _ ?_))
                  (repeat apply Exists.intro)
                  exact ⟨⟨h9, hV1⟩, rfl⟩
              case rest =>
                obtain ⟨rfl, hr8⟩ := hcut
                rw [HL2.out] at hr8
                obtain ⟨A9, n9, c9, hd9, hb9⟩ := hJ.next hgz hr8
                clear hr8
                go_wp2_with (go_at_call 37; refine (ROK_any _ _ _ _ _ _ _ hd9).mono ?_; rintro e w9 ⟨rfl, rfl⟩)
                go_roundw
                case rel => exact ⟨j + 1, by omega, by go_num, ⟨A9, n9, c9, hd9⟩, hb9⟩
                case measure => simp [intOf]; omega
            · have Hg := Lib.hid (show fixed (some L) = ((u32of t.n).toNat, some L2) by rw [HL.out, Hle.out]; exact got_fixed L2 hp)
              have Hp := Lib.hid hp
              clear hp
              go_upto_block 4 with (go_at_call 12; refine (Pick_is t.kind 4 1 _ Hp.out hki.1 hki.2 (by omega)).mono ?_; rintro e w8 ⟨rfl, rfl⟩)
              go_cut [9] from 52 to 107 (fun v9 wx => v9 = .bool true ∧ RdAt wr g (some L2) L.length wx)
              case first Jx Kx hJx hMx =>
                go_upto_region 22 with (fail)
                refine wp_region_stages (by kernel_rfl) ?_
                refine anyOrder_start [1] (Keep (Own1 g)) (gotW wr g AR nR cR L (some L2) L.length (ansIs (.int .u32 ((u32of t.n).toNat : Int)))) (FactsOn [.is (.pointer (some ⟨g, 0, none⟩)), .any, .is (.slice (some ⟨b, off, none⟩) k c), .is (.int .i64 (j : Int)), .is (.pointer (some ⟨b, off + j * 5, none⟩)), .is (.pointer (some ⟨b, off + j * 5 + 1, none⟩)), .is (.int .i64 t.n), .is (.int .u32 (t.n % 4294967296)), .is (.bool true), .is (.bool true)]) (fun i => 99) keep_trans keep_grow (gotW.grow ansIs.grow) (factsOn_mono _) (by kernel_rfl) (by kernel_rfl) ⟨hd, Keep.refl _ _⟩ ?_ ?_
                · refine ⟨?_, ?_, ?_, ?_, ?_, ?_, ?_, ?_, ?_, ?_, trivial⟩
                  · refine stageOf_free rfl (fun _ _ _ _ _ _ => wanted_none rfl) ?_
                    intro us vals w3 a' ha hle hW hd hv K hK
                    have q7 : a'.tmps[7]? = some (.pointer (some ⟨g, 0, none⟩)) := by rw [ha.out]; kernel_rfl
                    exact step_value (w2 := w3) (by go_simp) (hK _ _ (Grow.refl _) rfl)
                  · refine stageOf_mem (t := 0) rfl ?_
                    intro us vals w3 a' ha hle hW hd hv
                    obtain ⟨d0, _⟩ := hd
                    obtain rfl := List.eq_nil_of_length_eq_zero (Nat.le_zero.1 (show vals.length ≤ 0 from Nat.le_of_eq hv))
                    refine ⟨wanted_none rfl, fun K hK => ?_⟩
                    have q83 : a'.tmps[83]? = some (us 0) := by rw [ha.out]; kernel_rfl
                    rw [show us 0 = .pointer (some ⟨g, 0, none⟩) from d0] at q83
                    refine step_call (f := 32) (args := #[.pointer (some ⟨g, 0, none⟩)]) (by go_simp) ?_
                    have hn := RFixed_any w3 g AR nR cR L false hW.1
                    rw [stOf_false, Hg.out] at hn
                    refine hn.mono ?_
                    rintro e w4 ⟨rfl, hR4⟩
                    obtain ⟨hk4, hR5⟩ := hR4.both hW.2
                    exact ⟨_, rfl, hK _ _ hk4 ⟨hR5, rfl⟩⟩
                  · refine stageOf_free rfl (fun _ _ _ _ _ _ => wanted_none rfl) ?_
                    intro us vals w3 a' ha hle hW hd hv K hK
                    have q0 : a'.tmps[0]? = some (.slice (some ⟨b, off, none⟩) k c) := by rw [ha.out]; kernel_rfl
                    exact step_value (w2 := w3) (by go_simp) (hK _ _ (Grow.refl _) rfl)
                  · refine stageOf_free rfl (fun _ _ _ _ _ _ => wanted_none rfl) ?_
                    intro us vals w3 a' ha hle hW hd hv K hK
                    have q8 : a'.tmps[8]? = some (.int .i64 (j : Int)) := by rw [ha.out]; kernel_rfl
                    exact step_value (w2 := w3) (by go_simp) (hK _ _ (Grow.refl _) rfl)
                  · refine stageOf_free rfl (fun _ _ _ _ _ _ => wanted_none rfl) ?_
                    intro us vals w3 a' ha hle hW hd hv K hK
                    obtain ⟨d2, d3, _⟩ := hd
                    have q85 : a'.tmps[85]? = some (us 2) := by rw [ha.out]; kernel_rfl
                    rw [show us 2 = .slice (some ⟨b, off, none⟩) k c from d2] at q85
                    have q86 : a'.tmps[86]? = some (us 3) := by rw [ha.out]; kernel_rfl
                    rw [show us 3 = .int .i64 (j : Int) from d3] at q86
                    refine step_value (v := .pointer (some ⟨b, off + j * 5, none⟩)) (w2 := w3) ?_ (hK _ _ (Grow.refl _) rfl)
                    go_simp
                    (try (intro h; omega))
                  · refine stageOf_free rfl (fun _ _ _ _ _ _ => wanted_none rfl) ?_
                    intro us vals w3 a' ha hle hW hd hv K hK
                    obtain ⟨d4, _⟩ := hd
                    have q87 : a'.tmps[87]? = some (us 4) := by rw [ha.out]; kernel_rfl
                    rw [show us 4 = .pointer (some ⟨b, off + j * 5, none⟩) from d4] at q87
                    refine step_value (v := .pointer (some ⟨b, off + j * 5 + 1, none⟩)) (w2 := w3) ?_ (hK _ _ (Grow.refl _) rfl)
                    go_simp
                  · refine stageOf_free rfl (fun _ _ _ _ _ _ => wanted_none rfl) ?_
                    intro us vals w3 a' ha hle hW hd hv K hK
                    obtain ⟨d5, _⟩ := hd
                    have q88 : a'.tmps[88]? = some (us 5) := by rw [ha.out]; kernel_rfl
                    rw [show us 5 = .pointer (some ⟨b, off + j * 5 + 1, none⟩) from d5] at q88
                    have hc : w3.cell? ⟨b, off + j * 5 + 1, none⟩ = some (.int .i64 t.n) := (hle.cell (p := ⟨b, off + j * 5 + 1, none⟩) hzb hbf).trans hc1
                    refine step_value (v := .int .i64 t.n) (w2 := w3) ?_ (hK _ _ (Grow.refl _) rfl)
                    go_simp
                  · refine stageOf_free rfl (fun _ _ _ _ _ _ => wanted_none rfl) ?_
                    intro us vals w3 a' ha hle hW hd hv K hK
                    obtain ⟨d6, _⟩ := hd
                    have q89 : a'.tmps[89]? = some (us 6) := by rw [ha.out]; kernel_rfl
                    rw [show us 6 = .int .i64 t.n from d6] at q89
                    refine step_value (v := .int .u32 (t.n % 4294967296)) (w2 := w3) ?_ (hK _ _ (Grow.refl _) rfl)
                    go_simp
                    (first | rfl | (unfold IntKind.wrap; rfl))
                  · refine stageOf_free rfl (fun _ _ _ _ _ _ => wanted_none rfl) ?_
                    intro us vals w3 a' ha hle hW hd hv K hK
                    obtain ⟨d1, d7, _⟩ := hd
                    have q84 : a'.tmps[84]? = some (us 1) := by rw [ha.out]; kernel_rfl
                    have q90 : a'.tmps[90]? = some (us 7) := by rw [ha.out]; kernel_rfl
                    rw [show us 7 = .int .u32 (t.n % 4294967296) from d7] at q90
                    have hx : us 1 = .int .u32 ((u32of t.n).toNat : Int) := gotW.val hW d1
                    rw [hx, ← u32of_val] at q84
                    refine step_value (v := .bool true) (w2 := w3) ?_ (hK _ _ (Grow.refl _) rfl)
                    go_simp
                  · refine stageOf_free rfl (fun _ _ _ _ _ _ => wanted_none rfl) ?_
                    intro us vals w3 a' ha hle hW hd hv K hK
                    obtain ⟨d8, _, _, _, _, _, _, _, _, _, _, _⟩ := hd
                    have q91 : a'.tmps[91]? = some (us 8) := by rw [ha.out]; kernel_rfl
                    rw [show us 8 = .bool true from d8] at q91
                    exact step_value (w2 := w3) (by go_simp) (hK _ _ (Grow.refl _) rfl)
                · intro us vals w3 hle hvl hV _ hfa
                  obtain ⟨x1, rfl⟩ := List.length_eq_one_iff.1 hvl
                  have h9 : us 9 = .bool true := hfa 9 (by decide) rfl
                  have hV1 := hV.1
                  (try simp only [Exit.inBlock, Exit.then])
                  simp only [fills, Act.put, List.setIfInBounds_toArray, List.set_cons_succ, List.set_cons_zero, Nat.zero_add, Nat.reduceAdd]
                  refine hMx _ _ (Met.intro (hJx _ _ ?_))
                  (repeat apply Exists.intro)
                  exact ⟨⟨h9, hV1⟩, rfl⟩
              case rest =>
                obtain ⟨rfl, hr8⟩ := hcut
                rw [HL2.out] at hr8
                obtain ⟨A9, n9, c9, hd9, hb9⟩ := hJ.next hgz hr8
                clear hr8
                go_wp2_with (go_at_call 37; refine (ROK_any _ _ _ _ _ _ _ hd9).mono ?_; rintro e w9 ⟨rfl, rfl⟩)
                go_roundw
                case rel => exact ⟨j + 1, by omega, by go_num, ⟨A9, n9, c9, hd9⟩, hb9⟩
                case measure => simp [intOf]; omega
            · have Hg := Lib.hid (show text (n1 : Int) (some L) = (t.b, some L2) by rw [HL.out, Hle.out, ← hb1.len]; exact got_text hsz L2 hp)
              have Hp := Lib.hid hp
              clear hp
              go_upto_block 4 with (go_at_call 12; refine (Pick_is t.kind 4 2 _ Hp.out hki.1 hki.2 (by omega)).mono ?_; rintro e w8 ⟨rfl, rfl⟩)
              go_cut [9] from 52 to 107 (fun v9 wx => v9 = .bool true ∧ RdAt wr g (some L2) L.length wx)
              case first Jx Kx hJx hMx =>
                go_upto_region 24 with (fail)
                refine wp_region_stages (by kernel_rfl) ?_
                refine anyOrder_start [7] (Keep (Own1 g)) (gotW wr g AR nR cR L (some L2) L.length (ansBytes t.b)) (FactsOn [.is (.pointer (some ⟨g, 0, none⟩)), .is (.slice (some ⟨b, off, none⟩) k c), .is (.int .i64 (j : Int)), .is (.pointer (some ⟨b, off + j * 5, none⟩)), .is (.pointer (some ⟨b, off + j * 5 + 3, none⟩)), .is (.slice A1 n1 c1), .is (.int .i64 (n1 : Int)), .any, .is (.slice (some ⟨b, off, none⟩) k c), .is (.int .i64 (j : Int)), .is (.pointer (some ⟨b, off + j * 5, none⟩)), .is (.pointer (some ⟨b, off + j * 5 + 3, none⟩)), .is (.slice A1 n1 c1), .is (.bool true), .is (.bool true)]) (fun i => 99) keep_trans keep_grow (gotW.grow ansBytes.grow) (factsOn_mono _) (by kernel_rfl) (by kernel_rfl) ⟨hd, Keep.refl _ _⟩ ?_ ?_
                · refine ⟨?_, ?_, ?_, ?_, ?_, ?_, ?_, ?_, ?_, ?_, ?_, ?_, ?_, ?_, ?_, trivial⟩
                  · refine stageOf_free rfl (fun _ _ _ _ _ _ => wanted_none rfl) ?_
                    intro us vals w3 a' ha hle hW hd hv K hK
                    have q7 : a'.tmps[7]? = some (.pointer (some ⟨g, 0, none⟩)) := by rw [ha.out]; kernel_rfl
                    exact step_value (w2 := w3) (by go_simp) (hK _ _ (Grow.refl _) rfl)
                  · refine stageOf_free rfl (fun _ _ _ _ _ _ => wanted_none rfl) ?_
                    intro us vals w3 a' ha hle hW hd hv K hK
                    have q0 : a'.tmps[0]? = some (.slice (some ⟨b, off, none⟩) k c) := by rw [ha.out]; kernel_rfl
                    exact step_value (w2 := w3) (by go_simp) (hK _ _ (Grow.refl _) rfl)
                  · refine stageOf_free rfl (fun _ _ _ _ _ _ => wanted_none rfl) ?_
                    intro us vals w3 a' ha hle hW hd hv K hK
                    have q8 : a'.tmps[8]? = some (.int .i64 (j : Int)) := by rw [ha.out]; kernel_rfl
                    exact step_value (w2 := w3) (by go_simp) (hK _ _ (Grow.refl _) rfl)
                  · refine stageOf_free rfl (fun _ _ _ _ _ _ => wanted_none rfl) ?_
                    intro us vals w3 a' ha hle hW hd hv K hK
                    obtain ⟨d1, d2, _⟩ := hd
                    have q95 : a'.tmps[95]? = some (us 1) := by rw [ha.out]; kernel_rfl
                    rw [show us 1 = .slice (some ⟨b, off, none⟩) k c from d1] at q95
                    have q96 : a'.tmps[96]? = some (us 2) := by rw [ha.out]; kernel_rfl
                    rw [show us 2 = .int .i64 (j : Int) from d2] at q96
                    refine step_value (v := .pointer (some ⟨b, off + j * 5, none⟩)) (w2 := w3) ?_ (hK _ _ (Grow.refl _) rfl)
                    go_simp
                    (try (intro h; omega))
                  · refine stageOf_free rfl (fun _ _ _ _ _ _ => wanted_none rfl) ?_
                    intro us vals w3 a' ha hle hW hd hv K hK
                    obtain ⟨d3, _⟩ := hd
                    have q97 : a'.tmps[97]? = some (us 3) := by rw [ha.out]; kernel_rfl
                    rw [show us 3 = .pointer (some ⟨b, off + j * 5, none⟩) from d3] at q97
                    refine step_value (v := .pointer (some ⟨b, off + j * 5 + 3, none⟩)) (w2 := w3) ?_ (hK _ _ (Grow.refl _) rfl)
                    go_simp
                  · refine stageOf_free rfl (fun _ _ _ _ _ _ => wanted_none rfl) ?_
                    intro us vals w3 a' ha hle hW hd hv K hK
                    obtain ⟨d4, _⟩ := hd
                    have q98 : a'.tmps[98]? = some (us 4) := by rw [ha.out]; kernel_rfl
                    rw [show us 4 = .pointer (some ⟨b, off + j * 5 + 3, none⟩) from d4] at q98
                    have hc : w3.cell? ⟨b, off + j * 5 + 3, none⟩ = some (.slice A1 n1 c1) := (hle.cell (p := ⟨b, off + j * 5 + 3, none⟩) hzb hbf).trans hc3
                    refine step_value (v := .slice A1 n1 c1) (w2 := w3) ?_ (hK _ _ (Grow.refl _) rfl)
                    go_simp
                  · refine stageOf_free rfl (fun _ _ _ _ _ _ => wanted_none rfl) ?_
                    intro us vals w3 a' ha hle hW hd hv K hK
                    obtain ⟨d5, _⟩ := hd
                    have q99 : a'.tmps[99]? = some (us 5) := by rw [ha.out]; kernel_rfl
                    rw [show us 5 = .slice A1 n1 c1 from d5] at q99
                    refine step_value (v := .int .i64 (n1 : Int)) (w2 := w3) ?_ (hK _ _ (Grow.refl _) rfl)
                    go_simp
                  · refine stageOf_mem (t := 0) rfl ?_
                    intro us vals w3 a' ha hle hW hd hv
                    obtain ⟨d0, d6, _⟩ := hd
                    obtain rfl := List.eq_nil_of_length_eq_zero (Nat.le_zero.1 (show vals.length ≤ 0 from Nat.le_of_eq hv))
                    refine ⟨wanted_none rfl, fun K hK => ?_⟩
                    have q94 : a'.tmps[94]? = some (us 0) := by rw [ha.out]; kernel_rfl
                    rw [show us 0 = .pointer (some ⟨g, 0, none⟩) from d0] at q94
                    have q100 : a'.tmps[100]? = some (us 6) := by rw [ha.out]; kernel_rfl
                    rw [show us 6 = .int .i64 (n1 : Int) from d6] at q100
                    refine step_call (f := 34) (args := #[.pointer (some ⟨g, 0, none⟩), .int .i64 (n1 : Int)]) (by go_simp) ?_
                    have hn := RText_any w3 g AR nR cR L false (n1 : Int) hW.1 (by omega)
                    rw [stOf_false, Hg.out] at hn
                    refine hn.mono ?_
                    rintro e w4 ⟨r, B4, rfl, hB4, ho4, hR4⟩
                    obtain ⟨hk4, hR5⟩ := hR4.both hW.2
                    obtain ⟨A4, c4, rfl, -, -, hr4⟩ := own_reads ho4
                    exact ⟨_, rfl, hK _ _ hk4 ⟨hR5, A4, c4, rfl, hr4⟩⟩
                  · refine stageOf_free rfl (fun _ _ _ _ _ _ => wanted_none rfl) ?_
                    intro us vals w3 a' ha hle hW hd hv K hK
                    have q0 : a'.tmps[0]? = some (.slice (some ⟨b, off, none⟩) k c) := by rw [ha.out]; kernel_rfl
                    exact step_value (w2 := w3) (by go_simp) (hK _ _ (Grow.refl _) rfl)
                  · refine stageOf_free rfl (fun _ _ _ _ _ _ => wanted_none rfl) ?_
                    intro us vals w3 a' ha hle hW hd hv K hK
                    have q8 : a'.tmps[8]? = some (.int .i64 (j : Int)) := by rw [ha.out]; kernel_rfl
                    exact step_value (w2 := w3) (by go_simp) (hK _ _ (Grow.refl _) rfl)
                  · refine stageOf_free rfl (fun _ _ _ _ _ _ => wanted_none rfl) ?_
                    intro us vals w3 a' ha hle hW hd hv K hK
                    obtain ⟨d8, d9, _⟩ := hd
                    have q102 : a'.tmps[102]? = some (us 8) := by rw [ha.out]; kernel_rfl
                    rw [show us 8 = .slice (some ⟨b, off, none⟩) k c from d8] at q102
                    have q103 : a'.tmps[103]? = some (us 9) := by rw [ha.out]; kernel_rfl
                    rw [show us 9 = .int .i64 (j : Int) from d9] at q103
                    refine step_value (v := .pointer (some ⟨b, off + j * 5, none⟩)) (w2 := w3) ?_ (hK _ _ (Grow.refl _) rfl)
                    go_simp
                    (try (intro h; omega))
                  · refine stageOf_free rfl (fun _ _ _ _ _ _ => wanted_none rfl) ?_
                    intro us vals w3 a' ha hle hW hd hv K hK
                    obtain ⟨d10, _⟩ := hd
                    have q104 : a'.tmps[104]? = some (us 10) := by rw [ha.out]; kernel_rfl
                    rw [show us 10 = .pointer (some ⟨b, off + j * 5, none⟩) from d10] at q104
                    refine step_value (v := .pointer (some ⟨b, off + j * 5 + 3, none⟩)) (w2 := w3) ?_ (hK _ _ (Grow.refl _) rfl)
                    go_simp
                  · refine stageOf_free rfl (fun _ _ _ _ _ _ => wanted_none rfl) ?_
                    intro us vals w3 a' ha hle hW hd hv K hK
                    obtain ⟨d11, _⟩ := hd
                    have q105 : a'.tmps[105]? = some (us 11) := by rw [ha.out]; kernel_rfl
                    rw [show us 11 = .pointer (some ⟨b, off + j * 5 + 3, none⟩) from d11] at q105
                    have hc : w3.cell? ⟨b, off + j * 5 + 3, none⟩ = some (.slice A1 n1 c1) := (hle.cell (p := ⟨b, off + j * 5 + 3, none⟩) hzb hbf).trans hc3
                    refine step_value (v := .slice A1 n1 c1) (w2 := w3) ?_ (hK _ _ (Grow.refl _) rfl)
                    go_simp
                  · refine stageOf_free rfl (fun _ _ _ _ _ _ => wanted_none rfl) ?_
                    intro us vals w3 a' ha hle hW hd hv K hK
                    obtain ⟨d7, d12, _, _⟩ := hd
                    have q101 : a'.tmps[101]? = some (us 7) := by rw [ha.out]; kernel_rfl
                    have q106 : a'.tmps[106]? = some (us 12) := by rw [ha.out]; kernel_rfl
                    rw [show us 12 = .slice A1 n1 c1 from d12] at q106
                    obtain ⟨A8, c8, e8, r8⟩ := gotW.val hW d7
                    rw [e8] at q101
                    refine step_call (f := 33) (args := #[.slice A8 t.b.length c8, .slice A1 n1 c1]) (by go_simp) ?_
                    refine (bytes02_any w3 _ _ A8 A1 _ c8 n1 c1 t.b t.b r8 (Hb1.out w3 hle) (by simp only [maxLen]; omega) (by simp only [maxLen]; omega)).mono ?_
                    rw [sameL_self]
                    rintro e w4 ⟨rfl, q, rfl⟩
                    exact ⟨_, rfl, hK _ _ (Grow.drewN _ _) rfl⟩
                  · refine stageOf_free rfl (fun _ _ _ _ _ _ => wanted_none rfl) ?_
                    intro us vals w3 a' ha hle hW hd hv K hK
                    obtain ⟨d13, _, _, _, _, _, _, _, _, _, _, _, _, _, _, _, _⟩ := hd
                    have q107 : a'.tmps[107]? = some (us 13) := by rw [ha.out]; kernel_rfl
                    rw [show us 13 = .bool true from d13] at q107
                    exact step_value (w2 := w3) (by go_simp) (hK _ _ (Grow.refl _) rfl)
                · intro us vals w3 hle hvl hV _ hfa
                  obtain ⟨x1, rfl⟩ := List.length_eq_one_iff.1 hvl
                  have h9 : us 14 = .bool true := hfa 14 (by decide) rfl
                  have hV1 := hV.1
                  (try simp only [Exit.inBlock, Exit.then])
                  simp only [fills, Act.put, List.setIfInBounds_toArray, List.set_cons_succ, List.set_cons_zero, Nat.zero_add, Nat.reduceAdd]
                  refine hMx _ _ (Met.intro (hJx _ _ ?_))
                  (repeat apply Exists.intro)
                  exact ⟨⟨h9, hV1⟩, rfl⟩
              case rest =>
                obtain ⟨rfl, hr8⟩ := hcut
                rw [HL2.out] at hr8
                obtain ⟨A9, n9, c9, hd9, hb9⟩ := hJ.next hgz hr8
                clear hr8
                go_wp2_with (go_at_call 37; refine (ROK_any _ _ _ _ _ _ _ hd9).mono ?_; rintro e w9 ⟨rfl, rfl⟩)
                go_roundw
                case rel => exact ⟨j + 1, by omega, by go_num, ⟨A9, n9, c9, hd9⟩, hb9⟩
                case measure => simp [intOf]; omega
            · have Hg := Lib.hid (show rising (n3 : Int) 1099511627776 (some L) = (natRow t.row, some L2) by rw [HL.out, Hle.out, ← hb2.len]; exact got_rising hrt hsz L2 hp)
              have Hrow := Lib.hid (natRow_vals hrt)
              have Hp := Lib.hid hp
              clear hp
              go_upto_block 4 with (go_at_call 12; refine (Pick_is t.kind 4 3 _ Hp.out hki.1 hki.2 (by omega)).mono ?_; rintro e w8 ⟨rfl, rfl⟩)
              go_cut [9] from 52 to 107 (fun v9 wx => v9 = .bool true ∧ RdAt wr g (some L2) L.length wx)
              case first Jx Kx hJx hMx =>
                go_upto_region 18 with (fail)
                refine wp_region_stages (by kernel_rfl) ?_
                refine anyOrder_start [7] (Keep (Own1 g)) (gotW wr g AR nR cR L (some L2) L.length (ansInts t.row)) (FactsOn [.is (.pointer (some ⟨g, 0, none⟩)), .is (.slice (some ⟨b, off, none⟩) k c), .is (.int .i64 (j : Int)), .is (.pointer (some ⟨b, off + j * 5, none⟩)), .is (.pointer (some ⟨b, off + j * 5 + 4, none⟩)), .is (.slice A3 n3 c3), .is (.int .i64 (n3 : Int)), .any, .is (.slice (some ⟨b, off, none⟩) k c), .is (.int .i64 (j : Int)), .is (.pointer (some ⟨b, off + j * 5, none⟩)), .is (.pointer (some ⟨b, off + j * 5 + 4, none⟩)), .is (.slice A3 n3 c3), .is (.bool true), .is (.bool true)]) (fun i => 99) keep_trans keep_grow (gotW.grow ansInts.grow) (factsOn_mono _) (by kernel_rfl) (by kernel_rfl) ⟨hd, Keep.refl _ _⟩ ?_ ?_
                · refine ⟨?_, ?_, ?_, ?_, ?_, ?_, ?_, ?_, ?_, ?_, ?_, ?_, ?_, ?_, ?_, trivial⟩
                  · refine stageOf_free rfl (fun _ _ _ _ _ _ => wanted_none rfl) ?_
                    intro us vals w3 a' ha hle hW hd hv K hK
                    have q7 : a'.tmps[7]? = some (.pointer (some ⟨g, 0, none⟩)) := by rw [ha.out]; kernel_rfl
                    exact step_value (w2 := w3) (by go_simp) (hK _ _ (Grow.refl _) rfl)
                  · refine stageOf_free rfl (fun _ _ _ _ _ _ => wanted_none rfl) ?_
                    intro us vals w3 a' ha hle hW hd hv K hK
                    have q0 : a'.tmps[0]? = some (.slice (some ⟨b, off, none⟩) k c) := by rw [ha.out]; kernel_rfl
                    exact step_value (w2 := w3) (by go_simp) (hK _ _ (Grow.refl _) rfl)
                  · refine stageOf_free rfl (fun _ _ _ _ _ _ => wanted_none rfl) ?_
                    intro us vals w3 a' ha hle hW hd hv K hK
                    have q8 : a'.tmps[8]? = some (.int .i64 (j : Int)) := by rw [ha.out]; kernel_rfl
                    exact step_value (w2 := w3) (by go_simp) (hK _ _ (Grow.refl _) rfl)
                  · refine stageOf_free rfl (fun _ _ _ _ _ _ => wanted_none rfl) ?_
                    intro us vals w3 a' ha hle hW hd hv K hK
                    obtain ⟨d1, d2, _⟩ := hd
                    have q53 : a'.tmps[53]? = some (us 1) := by rw [ha.out]; kernel_rfl
                    rw [show us 1 = .slice (some ⟨b, off, none⟩) k c from d1] at q53
                    have q54 : a'.tmps[54]? = some (us 2) := by rw [ha.out]; kernel_rfl
                    rw [show us 2 = .int .i64 (j : Int) from d2] at q54
                    refine step_value (v := .pointer (some ⟨b, off + j * 5, none⟩)) (w2 := w3) ?_ (hK _ _ (Grow.refl _) rfl)
                    go_simp
                    (try (intro h; omega))
                  · refine stageOf_free rfl (fun _ _ _ _ _ _ => wanted_none rfl) ?_
                    intro us vals w3 a' ha hle hW hd hv K hK
                    obtain ⟨d3, _⟩ := hd
                    have q55 : a'.tmps[55]? = some (us 3) := by rw [ha.out]; kernel_rfl
                    rw [show us 3 = .pointer (some ⟨b, off + j * 5, none⟩) from d3] at q55
                    refine step_value (v := .pointer (some ⟨b, off + j * 5 + 4, none⟩)) (w2 := w3) ?_ (hK _ _ (Grow.refl _) rfl)
                    go_simp
                  · refine stageOf_free rfl (fun _ _ _ _ _ _ => wanted_none rfl) ?_
                    intro us vals w3 a' ha hle hW hd hv K hK
                    obtain ⟨d4, _⟩ := hd
                    have q56 : a'.tmps[56]? = some (us 4) := by rw [ha.out]; kernel_rfl
                    rw [show us 4 = .pointer (some ⟨b, off + j * 5 + 4, none⟩) from d4] at q56
                    have hc : w3.cell? ⟨b, off + j * 5 + 4, none⟩ = some (.slice A3 n3 c3) := (hle.cell (p := ⟨b, off + j * 5 + 4, none⟩) hzb hbf).trans hc4
                    refine step_value (v := .slice A3 n3 c3) (w2 := w3) ?_ (hK _ _ (Grow.refl _) rfl)
                    go_simp
                  · refine stageOf_free rfl (fun _ _ _ _ _ _ => wanted_none rfl) ?_
                    intro us vals w3 a' ha hle hW hd hv K hK
                    obtain ⟨d5, _⟩ := hd
                    have q57 : a'.tmps[57]? = some (us 5) := by rw [ha.out]; kernel_rfl
                    rw [show us 5 = .slice A3 n3 c3 from d5] at q57
                    refine step_value (v := .int .i64 (n3 : Int)) (w2 := w3) ?_ (hK _ _ (Grow.refl _) rfl)
                    go_simp
                  · refine stageOf_mem (t := 0) rfl ?_
                    intro us vals w3 a' ha hle hW hd hv
                    obtain ⟨d0, d6, _⟩ := hd
                    obtain rfl := List.eq_nil_of_length_eq_zero (Nat.le_zero.1 (show vals.length ≤ 0 from Nat.le_of_eq hv))
                    refine ⟨wanted_none rfl, fun K hK => ?_⟩
                    have q52 : a'.tmps[52]? = some (us 0) := by rw [ha.out]; kernel_rfl
                    rw [show us 0 = .pointer (some ⟨g, 0, none⟩) from d0] at q52
                    have q58 : a'.tmps[58]? = some (us 6) := by rw [ha.out]; kernel_rfl
                    rw [show us 6 = .int .i64 (n3 : Int) from d6] at q58
                    refine step_call (f := 36) (args := #[.pointer (some ⟨g, 0, none⟩), .int .i64 (n3 : Int), .int .i64 1099511627776]) (by go_simp) ?_
                    have hn := RRising_any w3 g AR nR cR L false (n3 : Int) 1099511627776 hW.1 (by omega)
                    rw [stOf_false, Hg.out] at hn
                    refine hn.mono ?_
                    rintro e w4 ⟨r, B4, rfl, hB4, ho4, hR4⟩
                    obtain ⟨hk4, hR5⟩ := hR4.both hW.2
                    rw [Hrow.out, natRow_length] at ho4
                    obtain ⟨A4, c4, rfl, -, -, hr4⟩ := own_reads ho4
                    exact ⟨_, rfl, hK _ _ hk4 ⟨hR5, A4, c4, rfl, hr4⟩⟩
                  · refine stageOf_free rfl (fun _ _ _ _ _ _ => wanted_none rfl) ?_
                    intro us vals w3 a' ha hle hW hd hv K hK
                    have q0 : a'.tmps[0]? = some (.slice (some ⟨b, off, none⟩) k c) := by rw [ha.out]; kernel_rfl
                    exact step_value (w2 := w3) (by go_simp) (hK _ _ (Grow.refl _) rfl)
                  · refine stageOf_free rfl (fun _ _ _ _ _ _ => wanted_none rfl) ?_
                    intro us vals w3 a' ha hle hW hd hv K hK
                    have q8 : a'.tmps[8]? = some (.int .i64 (j : Int)) := by rw [ha.out]; kernel_rfl
                    exact step_value (w2 := w3) (by go_simp) (hK _ _ (Grow.refl _) rfl)
                  · refine stageOf_free rfl (fun _ _ _ _ _ _ => wanted_none rfl) ?_
                    intro us vals w3 a' ha hle hW hd hv K hK
                    obtain ⟨d8, d9, _⟩ := hd
                    have q60 : a'.tmps[60]? = some (us 8) := by rw [ha.out]; kernel_rfl
                    rw [show us 8 = .slice (some ⟨b, off, none⟩) k c from d8] at q60
                    have q61 : a'.tmps[61]? = some (us 9) := by rw [ha.out]; kernel_rfl
                    rw [show us 9 = .int .i64 (j : Int) from d9] at q61
                    refine step_value (v := .pointer (some ⟨b, off + j * 5, none⟩)) (w2 := w3) ?_ (hK _ _ (Grow.refl _) rfl)
                    go_simp
                    (try (intro h; omega))
                  · refine stageOf_free rfl (fun _ _ _ _ _ _ => wanted_none rfl) ?_
                    intro us vals w3 a' ha hle hW hd hv K hK
                    obtain ⟨d10, _⟩ := hd
                    have q62 : a'.tmps[62]? = some (us 10) := by rw [ha.out]; kernel_rfl
                    rw [show us 10 = .pointer (some ⟨b, off + j * 5, none⟩) from d10] at q62
                    refine step_value (v := .pointer (some ⟨b, off + j * 5 + 4, none⟩)) (w2 := w3) ?_ (hK _ _ (Grow.refl _) rfl)
                    go_simp
                  · refine stageOf_free rfl (fun _ _ _ _ _ _ => wanted_none rfl) ?_
                    intro us vals w3 a' ha hle hW hd hv K hK
                    obtain ⟨d11, _⟩ := hd
                    have q63 : a'.tmps[63]? = some (us 11) := by rw [ha.out]; kernel_rfl
                    rw [show us 11 = .pointer (some ⟨b, off + j * 5 + 4, none⟩) from d11] at q63
                    have hc : w3.cell? ⟨b, off + j * 5 + 4, none⟩ = some (.slice A3 n3 c3) := (hle.cell (p := ⟨b, off + j * 5 + 4, none⟩) hzb hbf).trans hc4
                    refine step_value (v := .slice A3 n3 c3) (w2 := w3) ?_ (hK _ _ (Grow.refl _) rfl)
                    go_simp
                  · refine stageOf_free rfl (fun _ _ _ _ _ _ => wanted_none rfl) ?_
                    intro us vals w3 a' ha hle hW hd hv K hK
                    obtain ⟨d7, d12, _, _⟩ := hd
                    have q59 : a'.tmps[59]? = some (us 7) := by rw [ha.out]; kernel_rfl
                    have q64 : a'.tmps[64]? = some (us 12) := by rw [ha.out]; kernel_rfl
                    rw [show us 12 = .slice A3 n3 c3 from d12] at q64
                    obtain ⟨A8, c8, e8, r8⟩ := gotW.val hW d7
                    rw [e8] at q59
                    refine step_call (f := 35) (args := #[.slice A8 t.row.length c8, .slice A3 n3 c3]) (by go_simp) ?_
                    refine (ints02_any w3 _ _ A8 A3 _ c8 n3 c3 t.row t.row r8 (Hb2.out w3 hle) (by simp only [maxLen]; omega) (by simp only [maxLen]; omega)).mono ?_
                    rw [sameL_self]
                    rintro e w4 ⟨rfl, q, rfl⟩
                    exact ⟨_, rfl, hK _ _ (Grow.drewN _ _) rfl⟩
                  · refine stageOf_free rfl (fun _ _ _ _ _ _ => wanted_none rfl) ?_
                    intro us vals w3 a' ha hle hW hd hv K hK
                    obtain ⟨d13, _, _, _, _, _, _, _, _, _, _, _, _, _, _, _, _⟩ := hd
                    have q65 : a'.tmps[65]? = some (us 13) := by rw [ha.out]; kernel_rfl
                    rw [show us 13 = .bool true from d13] at q65
                    exact step_value (w2 := w3) (by go_simp) (hK _ _ (Grow.refl _) rfl)
                · intro us vals w3 hle hvl hV _ hfa
                  obtain ⟨x1, rfl⟩ := List.length_eq_one_iff.1 hvl
                  have h9 : us 14 = .bool true := hfa 14 (by decide) rfl
                  have hV1 := hV.1
                  (try simp only [Exit.inBlock, Exit.then])
                  simp only [fills, Act.put, List.setIfInBounds_toArray, List.set_cons_succ, List.set_cons_zero, Nat.zero_add, Nat.reduceAdd]
                  refine hMx _ _ (Met.intro (hJx _ _ ?_))
                  (repeat apply Exists.intro)
                  exact ⟨⟨h9, hV1⟩, rfl⟩
              case rest =>
                obtain ⟨rfl, hr8⟩ := hcut
                rw [HL2.out] at hr8
                obtain ⟨A9, n9, c9, hd9, hb9⟩ := hJ.next hgz hr8
                clear hr8
                go_wp2_with (go_at_call 37; refine (ROK_any _ _ _ _ _ _ _ hd9).mono ?_; rintro e w9 ⟨rfl, rfl⟩)
                go_roundw
                case rel => exact ⟨j + 1, by omega, by go_num, ⟨A9, n9, c9, hd9⟩, hb9⟩
                case measure => simp [intOf]; omega
          · obtain rfl : j = k := by omega
            have hd' : Rd wr g AR nR cR behind false := by
              have : ts.drop j = [] := by rw [List.drop_eq_nil_iff, hlen.out]; exact Nat.le_refl _
              rw [this, encThings, List.nil_append] at hd
              exact hd
            clear hd
            go_wp2_with fail
            refine (RLeft_any wr g AR nR cR behind false hd').mono ?_
            rw [stOf_false, left, hB2.out]
            rintro e w9 ⟨rfl, rfl⟩
            go_wp2
            go_ret
            exact ⟨rfl, hbw⟩
end Go.Proofs.Ytcjbeaohmgfgoaa
