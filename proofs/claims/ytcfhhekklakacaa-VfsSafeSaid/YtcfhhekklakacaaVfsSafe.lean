/-
  The walk of mudlarklaw04's VfsSafe.
-/
import Derived.Deep.MidRow
import Derived.WalkMore
import Derived.Test.YtcfhhekklakacaaVfsAwake
import Derived.Test.YtcfhhekklakacaaVfsGreat
import Derived.Test.YtcfhhekklakacaaVfsDo
namespace Go.Proofs.Ytcfhhekklakacaa
open Go.RowKit
set_option linter.unusedVariables false
/-- what the first deeds keep -/
structure Lop (w0 : World) (g base i tot : Nat) (W : World) : Prop where
  bel : Below base w0 W
  st : ∃ S, VAt W g base 100000 S ∧ S.maps.length ≤ i ∧ S.n ≤ 1000 * i ∧ S.total ≤ tot
/-- what the further deeds keep: the file is there -/
structure Lop2 (w0 : World) (g base i tot : Nat) (nm : List UInt8) (id : Nat) (p : List UInt8 × Nat) (W : World) : Prop where
  bel : Below base w0 W
  st : ∃ S, VAt W g base 100000 S ∧ S.maps.length ≤ i ∧ S.n ≤ 300000 + 1000 * i ∧ S.total ≤ tot ∧ id ∈ S.ids ∧ (∀ M ∈ S.all, M nm = some id) ∧ S.con id = p
theorem Lop.step {w0 W W' : World} {g base i tot len : Nat} {S : St} {k : Nat} {nm to' : ByteArray} (hb : Below base w0 W) (h1 : S.maps.length ≤ i) (h2 : S.n ≤ 1000 * i) (h3 : S.total ≤ tot) (hi : i < 200) (h : DoTo base g 100000 S k nm to' len W W') : Lop w0 g base (i + 1) (tot + len) W' := by
  obtain ⟨hbel, S', hv, hs⟩ := h
  exact ⟨hb.trans hbel, S', hv, by have := hs.maps; omega, by have := hs.n; omega, by have := hs.tot; omega⟩
theorem Lop.more {w0 W : World} {g base i tot tot' : Nat} (h : Lop w0 g base i tot W) (ht : tot ≤ tot') : Lop w0 g base i tot' W := by
  obtain ⟨a, S, b, c, d, e⟩ := h
  exact ⟨a, S, b, c, d, by omega⟩
theorem Lop2.more {w0 W : World} {g base i i' tot tot' : Nat} {l : List UInt8} {id : Nat} {p : List UInt8 × Nat} (h : Lop2 w0 g base i tot l id p W) (hi : i ≤ i') (ht : tot ≤ tot') : Lop2 w0 g base i' tot' l id p W := by
  obtain ⟨a, S, b, c, d, e, f⟩ := h
  exact ⟨a, S, b, by omega, by omega, by omega, f⟩
theorem great_small {ts : List DeedM} (h : great04B ts = false) : ts.length ≤ 200 ∧ deedsTot ts ≤ 3000 := by
  have h := of_decide_eq_false h
  omega
theorem Lop2.step {w0 W W' : World} {g base i tot len : Nat} {S : St} {k : Nat} {nm to' : ByteArray} {l : List UInt8} {id : Nat} {p : List UInt8 × Nat} (hb : Below base w0 W) (h1 : S.maps.length ≤ i) (h2 : S.n ≤ 300000 + 1000 * i) (h3 : S.total ≤ tot) (h4 : id ∈ S.ids) (h5 : ∀ M ∈ S.all, M l = some id) (h6 : S.con id = p) (hi : i < 200)
    (hn : l ≠ nm.data.toList) (ht : l ≠ to'.data.toList) (hk : k ≠ 10) (h : DoTo base g 100000 S k nm to' len W W') : Lop2 w0 g base (i + 1) (tot + len) l id p W' := by
  obtain ⟨hbel, S', hv, hs⟩ := h
  obtain ⟨a, b, c⟩ := hs.far (decide_eq_false hk) l id hn ht h4 h5
  exact ⟨hb.trans hbel, S', hv, by have := hs.maps; omega, by have := hs.n; omega, by have := hs.tot; omega, a, b, by rw [c]; exact h6⟩
theorem str_inj {a b : ByteArray} (h : a.toList = b.toList) : a = b := by
  rw [Lib.toList_data, Lib.toList_data] at h
  cases a
  cases b
  simp only [ByteArray.mk.injEq]
  exact Array.toList_inj.1 h
theorem data_ne {a b : ByteArray} (h : a ≠ b) : b.data.toList ≠ a.data.toList := fun e => h (by
  cases a; cases b
  simp only [ByteArray.mk.injEq]
  exact (Array.toList_inj.1 e).symm)
theorem str_same (a : ByteArray) : (a.toList == a.toList) = true := by simp
theorem str_ne {a b : ByteArray} (h : a ≠ b) : (a.toList == b.toList) = false := by
  rw [beq_eq_false_iff_ne]
  exact fun e => h (str_inj e)
theorem quiet_of {S : St} {N T : Nat} (hd : S.down = false) (hm : S.maps.length ≤ N) (hn : S.n ≤ N) (ht : S.total ≤ T) : Quiet ((S.arm 0).fill 0) N T := by
  have e : (S.arm 0).fill 0 = { S with armed := 0, full := 0 } := by
    unfold St.fill St.arm
    simp only [hd, Bool.false_eq_true, if_false]
    rfl
  rw [e]
  exact ⟨hd, rfl, rfl, hm, hn, ht⟩
theorem wakeTo_up {base g : Nat} {room : Int} {S : St} {ts : List Int} {w w' : World} {x : Int} {N T : Nat} (h : WakeTo base g room S ts w x w') (hm : S.maps.length ≤ N) (hn : S.n + 2 * S.maps.length ≤ N) (ht : S.total ≤ T) : Below base w w' ∧ ∃ S', VAt w' g base room S' ∧ S'.down = false ∧ S'.maps.length ≤ N ∧ S'.n ≤ N ∧ S'.total ≤ T := by
  obtain ⟨hik, ⟨hd, -, hv⟩ | ⟨-, -, M, con, n, -, hn', hcon, -, hv⟩⟩ := h
  · exact ⟨hik.1, S, hv, hd, hm, by omega, ht⟩
  · exact ⟨hik.1, _, hv, rfl, Nat.zero_le _, Nat.le_trans hn' hn, Nat.le_trans (woken_total hcon) ht⟩
theorem removeTo_quiet {base g : Nat} {room : Int} {S : St} {nm : ByteArray} {w w' : World} {x : Int} {N T : Nat} (hq : Quiet S N T) (h : RemoveTo base g room S nm w x w') : Below base w w' ∧ ∃ S', VAt w' g base room S' ∧ Quiet S' (N + 1) T ∧ S'.cur nm.data.toList = none := by
  obtain ⟨hbel, ⟨ht, -⟩ | ⟨-, hc, -, hv⟩ | ⟨-, -, id, hid, hv⟩⟩ := h
  · exact absurd hq.turnE ht
  · rw [hq.turnS] at hv
    exact ⟨hbel, S, hv, hq.more (Nat.le_succ _) (Nat.le_refl _), hc⟩
  · rw [hq.turnS] at hv
    exact ⟨hbel, _, hv, hq.step (len := 0) (wk := false) (to' := []) Stp.remove hq.down hq.armed hq.full (Nat.le_succ_of_le hq.n), putF_self _ _ _⟩
/-- the file is made, synced, and more is put behind it -/
def madeS (S : St) (nm : List UInt8) (id : Nat) (l2 l3 : List UInt8) : St :=
  let S1 := S.create nm id
  let S2 := S1.setF id ((S1.con id).1 ++ l2, (S1.con id).2)
  let S3 := S2.sync id
  S3.setF id ((S3.con id).1 ++ l3, (S3.con id).2)
theorem madeS_con {S : St} {nm : List UInt8} {id : Nat} {l2 l3 : List UInt8} : (madeS S nm id l2 l3).con id = (l2 ++ l3, l2.length) := by
  simp [madeS, St.setF, St.sync, St.clean, St.create, St.wait, St.more, St.file]
theorem madeS_ids {S : St} {nm : List UInt8} {id : Nat} {l2 l3 : List UInt8} : id ∈ (madeS S nm id l2 l3).ids := by
  simp [madeS, St.setF, St.sync, St.clean, St.create, St.wait, St.more, St.file]
theorem madeS_all {S : St} {nm : List UInt8} {id : Nat} {l2 l3 : List UInt8} {M : FM} (h : M ∈ (madeS S nm id l2 l3).all) : M nm = some id := by
  have e : (madeS S nm id l2 l3).all = [putF S.cur nm (some id)] := rfl
  rw [e, List.mem_singleton] at h
  rw [h]
  exact putF_self _ _ _
set_option maxRecDepth 100000 in
set_option maxHeartbeats 4000000 in
theorem vsafe_walk (w : World) (A0 A2 A3 A4 A6 : Option Addr) (n0 c0 n2 c2 n3 c3 n4 c4 n6 c6 : Nat) (nm : ByteArray) (ts us : List DeedM) (l2 l3 : List UInt8) (l6 : List Int) (dirs : Int) (hT0 : DeedsAt w w.heap.size A0 n0 ts) (hn0 : n0 ≤ 1954687338269) (hnm : nm.size ≤ 281474976710656) (hR2 : BytesAt w w.heap.size A2 n2 l2) (hn2 : n2 ≤ c2) (hc2 : n2 ≤ 140737488351232) (hR3 : BytesAt w w.heap.size A3 n3 l3) (hn3 : n3 ≤ c3) (hc3 : n3 ≤ 140737488351232)
    (hT4 : DeedsAt w w.heap.size A4 n4 us) (hn4 : n4 ≤ 1954687338269) (hR6 : IntsAt w w.heap.size A6 n6 l6) (hn6 : n6 ≤ c6) (hc6 : c6 ≤ 17592186043904) (hl6 : ∀ x ∈ l6, -9223372036854775808 ≤ x ∧ x ≤ 9223372036854775807) (hdirs : -9223372036854775808 ≤ dirs ∧ dirs ≤ 9223372036854775807) :
    Calls Try.prog 4 #[.slice A0 n0 c0, .string nm, .slice A2 n2 c2, .slice A3 n3 c3, .slice A4 n4 c4, .int .i64 dirs, .slice A6 n6 c6] w fun e w' => e = .returned (.bool true) ∧ Below w.heap.size w w' := by
  have Hl2 := Lib.hid hR2.len
  have Hl3 := Lib.hid hR3.len
  have HT0 := Lib.hid (show ∀ W, Below w.heap.size w W → DeedsAt W w.heap.size A0 n0 ts from fun W h => hT0.below h)
  have HT4 := Lib.hid (show ∀ W, Below w.heap.size w W → DeedsAt W w.heap.size A4 n4 us from fun W h => hT4.below h)
  have HR2 := Lib.hid (show ∀ W, Below w.heap.size w W → ReadsAt W w.heap.size 1 A2 n2 (l2.map b8) from fun W h => hR2.below h)
  have HR3 := Lib.hid (show ∀ W, Below w.heap.size w W → ReadsAt W w.heap.size 1 A3 n3 (l3.map b8) from fun W h => hR3.below h)
  have HR6 := Lib.hid (show ∀ W, Below w.heap.size w W → ReadsAt W w.heap.size 1 A6 n6 (l6.map (.int .i64 ·)) from fun W h => hR6.below h)
  have Hl6 := Lib.hid hl6
  have Hlt := Lib.hid hT0.len
  have Hlu := Lib.hid hT4.len
  clear hT0 hT4 hR2 hR3 hR6 hl6
  go_enter Try.func4, Try.ntmps4
  go_wp2_with fail
  refine (awake04_any w).mono ?_
  rintro e w1 ⟨rfl, hb⟩
  have Hb1 := Lib.hid hb
  clear hb
  have Hgr0 := Lib.hid (great04_any w1 w.heap.size A0 n0 c0 ts (HT0.out w1 Hb1.out) hn0)
  have Hgr4 := Lib.hid (show ∀ q, Calls Try.prog 15 #[.slice A4 n4 c4] (w1.drewN q) (fun e w' => e = .returned (.bool (great04B us)) ∧ ∃ q2, (w1.drewN q).drewN q2 = w') from fun q => great04_any (w1.drewN q) w.heap.size A4 n4 c4 us (HT4.out _ (Hb1.out.trans (Below.mono (below_drewN _ q) Hb1.out.size))) hn4)
  go_wp2_with fail
  refine Hgr0.out.mono ?_
  rintro e wq ⟨rfl, q, rfl⟩
  cases hg0 : great04B ts with
  | true =>
    go_wp2_with fail
    go_ret
    exact ⟨rfl, Hb1.out.trans (Below.mono (below_drewN _ q) Hb1.out.size)⟩
  | false =>
  have Hg0 := Lib.hid hg0
  clear hg0
  go_wp2_with fail
  refine (Hgr4.out q).mono ?_
  rintro e wq ⟨rfl, q2, rfl⟩
  cases hg4 : great04B us with
  | true =>
    go_wp2_with fail
    go_ret
    exact ⟨rfl, Hb1.out.trans (Below.mono (below_drewN _ _) Hb1.out.size)⟩
  | false =>
  have Hg4 := Lib.hid hg4
  clear hg4 Hgr0 Hgr4
  obtain ⟨w2, hw2⟩ : ∃ w2, (w1.drewN q).drewN q2 = w2 := ⟨_, rfl⟩
  have hb2 : Below w.heap.size w w2 := by
    rw [← hw2]
    exact Hb1.out.trans ((Below.mono (below_drewN w1 q) Hb1.out.size).trans (Below.mono (below_drewN (w1.drewN q) q2) Hb1.out.size))
  rw [hw2]
  clear hw2
  have Hb2 := Lib.hid hb2
  clear hb2
  by_cases hbig : 3000 < n2 + n3 + n6
  · have hgt : decide ((3000 : Int) < (n2 : Int) + (n3 : Int) + (n6 : Int)) = true := decide_eq_true (by omega)
    have hgt2 : decide (3000 < n2 + n3 + n6) = true := decide_eq_true (by omega)
    go_wp2_with fail
    go_ret
    exact ⟨rfl, Hb2.out⟩
  have hgt : decide ((3000 : Int) < (n2 : Int) + (n3 : Int) + (n6 : Int)) = false := decide_eq_false (by omega)
  have hgt2 : decide (3000 < n2 + n3 + n6) = false := decide_eq_false (by omega)
  go_wp2_with fail
  refine (vNew_any w2 100000 (by omega) (by omega)).mono ?_
  rintro e w3 ⟨rfl, hv, hg⟩
  have Hv3 := Lib.hid hv
  have Hb3 := Lib.hid (show Below w2.heap.size w2 w3 from hg)
  clear hv hg
  have Hw := Lib.hid (show ∀ W, Below w2.heap.size w2 W → Below w.heap.size w W from fun W h => Hb2.out.trans (Below.mono h Hb2.out.size))
  have hsz := Hb2.out.size
  have hs0 := great_small Hg0.out
  have hs4 := great_small Hg4.out
  rw [Hlt.out] at hs0
  rw [Hlu.out] at hs4
  have H0 := Lib.hid (show Lop w2 (w2.heap.size + 1) w2.heap.size 0 (deedsTot (ts.take 0)) w3 from ⟨Hb3.out, newS, Hv3.out, Nat.le_refl _, Nat.le_refl _, Nat.zero_le _⟩)
  clear Hv3 Hb3 Hg0 Hg4
  go_wp2_with fail
  go_loopw [17] (fun v17 wr => ∃ i : Nat, i ≤ n0 ∧ v17 = .int .i64 (i : Int) ∧ Hid (Lop w2 (w2.heap.size + 1) w2.heap.size i (deedsTot (ts.take i)) wr)) (fun v17 _ => n0 - (intOf v17).toNat)
  case atStart => exact ⟨0, by omega, rfl, H0⟩
  case round =>
    clear H0
    obtain ⟨i, hi, rfl, hl⟩ := hrel
    by_cases hlt : i < n0
    · obtain ⟨t, ht⟩ : ∃ t, ts[i]? = some t := ⟨_, List.getElem?_eq_getElem (by rw [Hlt.out]; exact hlt)⟩
      have hsize := deedSize_le (List.mem_of_getElem? ht)
      have hsucc := deedsTot_succ ht
      have htk := deedsTot_le ts i
      unfold deedSize at hsize hsucc
      obtain ⟨b, off, A1, m1, d1, A5, m5, d5, rfl, hb, hcs, ⟨hwh, hdn, -, -⟩, h4, h7, htr⟩ := (HT0.out wr (Hw.out wr hl.out.bel)).at_ ht
      obtain ⟨hbel, S, hv, hm, hn, hT⟩ := hl.out
      obtain ⟨k, hk⟩ : ∃ k : Nat, pickI t.what 13 = (k : Int) := ⟨(pickI t.what 13).toNat, by have := pickI_nonneg t.what 13; omega⟩
      have Hdo := Lib.hid (do04_any wr (w2.heap.size + 1) w2.heap.size w.heap.size S hv hbel.size hsz t.what t.n t.m t.name t.to' A1 A5 m1 d1 m5 d5 t.b t.tears hwh hdn (by omega) (by omega) h4 h7 htr (by omega) (by omega) (by omega) k hk)
      have Hnext := Lib.hid (fun W' (h : DoTo w2.heap.size (w2.heap.size + 1) 100000 S k t.name t.to' t.b.length wr W') => (Lop.step hbel hm hn hT (by omega) h).more (tot' := deedsTot (ts.take (i + 1))) (by omega))
      have Hcs := Lib.hid (show wr.rangeAt b (off + i * 7) _ from fun j v hj => hcs j v hj)
      have hlt2 : decide ((i : Int) < (n0 : Int)) = true := decide_eq_true (by omega)
      clear hcs hv hbel hl hm hn hT h4 h7 htr hwh hdn hsize hsucc htk ht hk
      go_wp2_with (refine wpList_load_mid rfl 42 (.tmp 57) rfl b (off + i * 7) rfl _ _ Hcs.out Try.underlying42 rfl (by kernel_rfl) ?_)
      refine Hdo.out.mono ?_
      rintro e w4 ⟨rfl, hdo⟩
      have HN := Lib.hid (Hnext.out w4 hdo)
      clear hdo Hnext Hdo Hcs
      go_wp2_with fail
      go_roundw
      case rel => exact ⟨i + 1, by omega, by go_num, HN⟩
      case measure => simp only [intOf]; omega
    · obtain rfl : i = n0 := by omega
      obtain ⟨hbel, S, hv, hm, hn, hT⟩ := hl.out
      have htk := deedsTot_le ts i
      have hlt2 : decide ((i : Int) < (i : Int)) = false := decide_eq_false (by omega)
      have HWk := Lib.hid (vWake_any wr _ _ _ S hv hbel.size 0 (by omega) none 0 0 0 [] (Nat.le_refl _) (Nat.zero_le _) (fun _ _ => ⟨rfl, fun h => absurd h (by omega)⟩) (fun x hx => by cases hx) (by omega) (by omega))
      have HUp := Lib.hid (fun (w' : World) (x : Int) (h : WakeTo w2.heap.size (w2.heap.size + 1) 100000 S [] wr x w') => wakeTo_up (N := 210000) (T := 3000) h (by omega) (by omega) (by omega))
      have Hbel := Lib.hid hbel
      clear hl hbel hv hm hn hT htk
      go_wp2_with fail
      refine HWk.out.mono ?_
      rintro e w4 ⟨x, rfl, hwk⟩
      obtain ⟨hb4, S1, hv4, hd1, hm1, hn1, ht1⟩ := HUp.out w4 x hwk
      have Hv4 := Lib.hid hv4
      have Hb4 := Lib.hid (Hbel.out.trans hb4)
      have Hq1 := Lib.hid (quiet_of hd1 hm1 hn1 ht1)
      clear hwk hb4 hv4 hd1 hm1 hn1 ht1 HWk HUp
      go_wp2_with fail
      refine (vArm_any w4 _ _ _ S1 0 Hv4.out Hb4.out.size (by omega)).mono ?_
      rintro e w5 ⟨rfl, hv, hb⟩
      have Hv5 := Lib.hid hv
      have Hb5 := Lib.hid (Hb4.out.trans hb)
      clear hv hb
      go_wp2_with fail
      refine (vFull_any w5 _ _ _ _ 0 Hv5.out Hb5.out.size (by omega)).mono ?_
      rintro e w6 ⟨rfl, hv, hb⟩
      have Hv6 := Lib.hid hv
      have Hb6 := Lib.hid (Hb5.out.trans hb)
      clear hv hb
      have hmx : nm.size ≤ maxLen := by unfold maxLen; omega
      go_wp2_with fail
      refine (vRemove_any w6 _ _ _ _ Hv6.out Hb6.out.size nm hmx (Nat.le_trans Hq1.out.maps (by omega))).mono ?_
      rintro e w7 ⟨x, rfl, hrm⟩
      obtain ⟨hb7, S4, hv7, hq7, hc7⟩ := removeTo_quiet Hq1.out hrm
      have Hv7 := Lib.hid hv7
      have Hq7 := Lib.hid hq7
      have Hc7 := Lib.hid hc7
      have Hb7 := Lib.hid (Hb6.out.trans hb7)
      clear hrm hb7 hv7 hq7 hc7 Hv4 Hv5 Hv6
      cases hr : rightB nm with
      | false =>
        have Hr := Lib.hid hr
        clear hr
        go_wp2_with fail
        refine (vCreate_any w7 _ _ _ _ Hv7.out Hb7.out.size nm hnm (Nat.le_trans Hq7.out.maps (by omega)) (Nat.lt_of_le_of_lt Hq7.out.n (by unfold maxLen; omega))).mono ?_
        rintro e w8 ⟨hb, ⟨ht, -⟩ | ⟨-, -, rfl, -⟩ | ⟨-, hr', -⟩ | ⟨-, hr', -⟩⟩
        · exact absurd Hq7.out.turnE ht
        · have Hb8 := Lib.hid (Hb7.out.trans hb)
          clear hb
          go_wp2_with fail
          go_ret
          exact ⟨rfl, Hw.out _ Hb8.out⟩
        · rw [Hr.out] at hr'
          cases hr'
        · rw [Hr.out] at hr'
          cases hr'
      | true =>
      have Hr := Lib.hid hr
      clear hr
      go_wp2_with fail
      refine (q_create Hv7.out Hb7.out.size Hq7.out nm hnm (by omega) Hr.out Hc7.out).mono ?_
      rintro e w8 ⟨rfl, hb, id, -, hv, hq⟩
      have Hv8 := Lib.hid hv
      have Hq8 := Lib.hid hq
      have Hb8 := Lib.hid (Hb7.out.trans hb)
      clear hb hv hq
      go_wp2_with fail
      refine (q_append (B := w.heap.size) Hv8.out Hb8.out.size Hq8.out nm hmx A2 n2 c2 l2 Hl2.out (fun W hk => HR2.out W (Hw.out W (Hb8.out.trans (hk.below (fun j hj => by rw [hj]; omega) Hb8.out.size)))) (by omega) (by omega) (id := id) (show putF S4.cur nm.data.toList (some id) nm.data.toList = some id from putF_self _ _ _)).mono ?_
      rintro e w9 ⟨rfl, hb, hv, hq⟩
      have Hv9 := Lib.hid hv
      have Hq9 := Lib.hid hq
      have Hb9 := Lib.hid (Hb8.out.trans hb)
      clear hb hv hq
      go_wp2_with fail
      refine (q_sync Hv9.out Hb9.out.size Hq9.out nm hmx (id := id) (show putF S4.cur nm.data.toList (some id) nm.data.toList = some id from putF_self _ _ _)).mono ?_
      rintro e w10 ⟨rfl, hb, hv, hq⟩
      have Hv10 := Lib.hid hv
      have Hq10 := Lib.hid hq
      have Hb10 := Lib.hid (Hb9.out.trans hb)
      clear hb hv hq
      go_wp2_with fail
      refine (q_append (B := w.heap.size) Hv10.out Hb10.out.size Hq10.out nm hmx A3 n3 c3 l3 Hl3.out (fun W hk => HR3.out W (Hw.out W (Hb10.out.trans (hk.below (fun j hj => by rw [hj]; omega) Hb10.out.size)))) (by omega) (by omega) (id := id) (show putF S4.cur nm.data.toList (some id) nm.data.toList = some id from putF_self _ _ _)).mono ?_
      rintro e w11 ⟨rfl, hb, hv, hq⟩
      have H11 := Lib.hid (show Lop2 w2 (w2.heap.size + 1) w2.heap.size 0 (10000 + deedsTot (us.take 0)) nm.data.toList id (l2 ++ l3, l2.length) w11 from ⟨Hb10.out.trans hb, madeS S4 nm.data.toList id l2 l3, hv, Nat.zero_le _, Nat.le_trans hq.n (by omega), Nat.le_trans hq.tot (by omega), madeS_ids, fun M hM => madeS_all hM, madeS_con⟩)
      clear hb hv hq Hv7 Hv8 Hv9 Hv10 Hq1 Hq7 Hq8 Hq9 Hq10 Hc7 Hr Hb4 Hb5 Hb6 Hb7 Hb8 Hb9 Hb10 Hbel
      go_wp2_with fail
      go_loopw [19, 20] (fun v19 v20 wr => ∃ i : Nat, i ≤ n4 ∧ v19 = .int .i64 (i : Int) ∧ Hid (Lop2 w2 (w2.heap.size + 1) w2.heap.size i (10000 + deedsTot (us.take i)) nm.data.toList id (l2 ++ l3, l2.length) wr)) (fun v19 _ _ => n4 - (intOf v19).toNat)
      case atStart => exact ⟨0, by omega, rfl, H11⟩
      case round =>
        clear H11
        obtain ⟨j, hj, rfl, hl⟩ := hrel
        by_cases hlt : j < n4
        · obtain ⟨t, ht⟩ : ∃ t, us[j]? = some t := ⟨_, List.getElem?_eq_getElem (by rw [Hlu.out]; exact hlt)⟩
          have hsize := deedSize_le (List.mem_of_getElem? ht)
          have hsucc := deedsTot_succ ht
          have htk := deedsTot_le us j
          unfold deedSize at hsize hsucc
          obtain ⟨b, off, A1, m1, d1, A5, m5, d5, rfl, hb, hcs, ⟨hwh, hdn, -, -⟩, h4, h7, htr⟩ := (HT4.out wr (Hw.out wr hl.out.bel)).at_ ht
          obtain ⟨hbel, S, hv, hm, hn, hT, hin, hall, hcon⟩ := hl.out
          obtain ⟨k, hk⟩ : ∃ k : Nat, pickI t.what 13 = (k : Int) := ⟨(pickI t.what 13).toNat, by have := pickI_nonneg t.what 13; omega⟩
          have Hdo := Lib.hid (do04_any wr (w2.heap.size + 1) w2.heap.size w.heap.size S hv hbel.size hsz t.what t.n t.m t.name t.to' A1 A5 m1 d1 m5 d5 t.b t.tears hwh hdn (by omega) (by omega) h4 h7 htr (by omega) (by omega) (by omega) k hk)
          have Hpick := Lib.hid (Pick_any t.what 13 wr hwh.1 hwh.2 (by omega))
          have Hnext := Lib.hid (fun W' (hn1 : nm.data.toList ≠ t.name.data.toList) (hn2 : nm.data.toList ≠ t.to'.data.toList) (hk : k ≠ 10) (h : DoTo w2.heap.size (w2.heap.size + 1) 100000 S k t.name t.to' t.b.length wr W') => (Lop2.step hbel hm hn hT hin hall hcon (by omega) hn1 hn2 hk h).more (i' := j + 1) (tot' := 10000 + deedsTot (us.take (j + 1))) (Nat.le_refl _) (by omega))
          have Hskip := Lib.hid (hl.out.more (i' := j + 1) (tot' := 10000 + deedsTot (us.take (j + 1))) (by omega) (by omega))
          have Hcs := Lib.hid (show wr.rangeAt b (off + j * 7) _ from fun j v hj => hcs j v hj)
          have hc0 : wr.cell? ⟨b, off + j * 7, none⟩ = some (.int .i64 t.what) := hcs 0 _ rfl
          have hc1 : wr.cell? ⟨b, off + j * 7 + 1, none⟩ = some (.string t.name) := hcs 1 _ rfl
          have hc2 : wr.cell? ⟨b, off + j * 7 + 2, none⟩ = some (.string t.to') := hcs 2 _ rfl
          have hlt2 : decide ((j : Int) < (n4 : Int)) = true := decide_eq_true (by omega)
          obtain ⟨kk, hkk⟩ : ∃ kk, kk = pickI t.what 13 := ⟨_, rfl⟩
          rw [← hkk] at Hpick hk
          have Hk := Lib.hid hk
          have hsame := str_same nm
          clear hcs hv hbel hl hm hn hT h4 h7 htr hwh hdn hsize hsucc htk ht hkk hk hin hall hcon
          by_cases e1 : t.name = nm
          · rw [e1] at hc1
            clear e1 Hnext Hdo Hcs
            go_wp2_with fail
            refine Hpick.out.mono ?_
            rintro e w4 ⟨rfl, rfl⟩
            go_wp2_with fail
            go_roundw
            case rel => exact ⟨j + 1, by omega, by go_num, Hskip⟩
            case measure => simp only [intOf]; omega
          have hne1 := str_ne e1
          by_cases e2 : t.to' = nm
          · rw [e2] at hc2
            clear e2 Hnext Hdo Hcs
            go_wp2_with fail
            refine Hpick.out.mono ?_
            rintro e w4 ⟨rfl, rfl⟩
            go_wp2_with fail
            go_roundw
            case rel => exact ⟨j + 1, by omega, by go_num, Hskip⟩
            case measure => simp only [intOf]; omega
          have hne2 := str_ne e2
          by_cases e3 : kk = 7
          · subst e3
            clear Hnext Hdo Hcs
            go_wp2_with fail
            refine Hpick.out.mono ?_
            rintro e w4 ⟨rfl, rfl⟩
            go_wp2_with fail
            go_roundw
            case rel => exact ⟨j + 1, by omega, by go_num, Hskip⟩
            case measure => simp only [intOf]; omega
          have hz3 : (kk == 7) = false := by rw [beq_eq_false_iff_ne]; exact e3
          by_cases e4 : kk = 10
          · subst e4
            clear Hnext Hdo Hcs
            go_wp2_with fail
            refine Hpick.out.mono ?_
            rintro e w4 ⟨rfl, rfl⟩
            go_wp2_with fail
            go_roundw
            case rel => exact ⟨j + 1, by omega, by go_num, Hskip⟩
            case measure => simp only [intOf]; omega
          have hz4 : (kk == 10) = false := by rw [beq_eq_false_iff_ne]; exact e4
          have Hn1 := Lib.hid (data_ne e1)
          have Hn2 := Lib.hid (data_ne e2)
          have Hk10 := Lib.hid (show k ≠ 10 by have := Hk.out; omega)
          have hz7 : (kk != 7) = true := by rw [bne_iff_ne]; exact e3
          have hz10 : (kk != 10) = true := by rw [bne_iff_ne]; exact e4
          clear e1 e2
          go_wp2_with fail
          refine Hpick.out.mono ?_
          rintro e w4 ⟨rfl, rfl⟩
          go_wp2_with (refine wpList_load_mid rfl 42 (.tmp 133) rfl b (off + j * 7) rfl _ _ Hcs.out Try.underlying42 rfl (by kernel_rfl) ?_)
          refine Hdo.out.mono ?_
          rintro e w5 ⟨rfl, hdo⟩
          have HN := Lib.hid (Hnext.out w5 Hn1.out Hn2.out Hk10.out hdo)
          clear hdo Hnext Hdo Hcs Hskip
          go_wp2_with fail
          go_roundw
          case rel => exact ⟨j + 1, by omega, by go_num, HN⟩
          case measure => simp only [intOf]; omega
        · obtain rfl : j = n4 := by omega
          obtain ⟨hbel, S, hv, hm, hn, hT, hin, hall, hcon⟩ := hl.out
          have hlt2 : decide ((j : Int) < (j : Int)) = false := decide_eq_false (by omega)
          have Hbel := Lib.hid hbel
          have Hv := Lib.hid hv
          have Hm := Lib.hid hm
          have Hn := Lib.hid hn
          have Hin := Lib.hid hin
          have Hall := Lib.hid hall
          have Hcon := Lib.hid hcon
          clear hl hbel hv hm hn hT hin hall hcon
          go_wp2_with fail
          refine (show Calls Try.prog 11 #[pg (w2.heap.size + 1)] wr (fun e w' => ∃ x : Int, e = .returned (.int .i64 x) ∧ VAt w' (w2.heap.size + 1) w2.heap.size 100000 { S with down := true } ∧ Below w2.heap.size wr w') from (vCrash_any wr _ _ _ S Hv.out Hbel.out.size).mono fun e w' h => ⟨_, h.1, h.2⟩).mono ?_
          rintro e w12 ⟨x12, rfl, hv, hb⟩
          have Hv12 := Lib.hid hv
          have Hb12 := Lib.hid (Hbel.out.trans hb)
          clear hv hb
          go_wp2_with fail
          refine (vWake_any w12 _ _ _ _ Hv12.out Hb12.out.size dirs hdirs A6 n6 c6 w.heap.size l6 hn6 (by unfold maxLen; omega) (fun W hk => HR6.out W (Hw.out W (Hb12.out.trans hk.1))) Hl6.out (Nat.le_trans Hm.out (by omega)) (Nat.le_trans Hn.out (by omega))).mono ?_
          rintro e w13 ⟨x, rfl, hik, ⟨hd, -, -⟩ | ⟨-, rfl, M, con, n, hM, -, htorn, -, hv⟩⟩
          · cases hd
          have hMn : M nm.data.toList = some id := Hall.out M hM
          have hto := htorn id Hin.out
          rw [show ({ S with down := true } : St).con id = S.con id from rfl, Hcon.out] at hto
          have Hto := Lib.hid hto
          have HMn := Lib.hid hMn
          have Hv13 := Lib.hid hv
          have Hb13 := Lib.hid (Hb12.out.trans hik.1)
          clear hMn hto hv hik htorn hM
          go_wp2_with fail
          refine (vRead_any w13 _ _ _ _ Hv13.out nm hmx 1073741824 (by omega)).mono ?_
          rintro e w14 ⟨hg, ⟨hd, -⟩ | ⟨-, hc, -⟩ | ⟨-, id', v, hc, rfl, hrow⟩⟩
          · cases hd
          · have hc : M nm.data.toList = none := hc
            rw [HMn.out] at hc
            cases hc
          have hc : M nm.data.toList = some id' := hc
          rw [HMn.out] at hc
          injection hc with hc
          subst hc
          obtain ⟨q, hq⟩ : ∃ q, q = (con id).1 := ⟨_, rfl⟩
          have hqt : q.length ≤ n2 + n3 ∧ n2 ≤ q.length ∧ q.take n2 = l2 := by
            obtain ⟨a1, a2, a3, a4, -⟩ := Hto.out
            simp only [List.length_append, Hl2.out, Hl3.out] at a1 a2 a4
            rw [← hq] at a1 a3 a4
            refine ⟨a1, by omega, ?_⟩
            rw [a4, List.take_append_of_le_length (Nat.le_of_eq Hl2.out.symm), List.take_of_length_le (Nat.le_of_eq Hl2.out)]
          rw [show (({ S with down := true } : St).woken M con n).con id = con id from rfl, ← hq, List.take_of_length_le (by omega)] at hrow
          have Hb14 := Lib.hid (Hb13.out.trans (Below.mono hg Hb13.out.size))
          have Hqt := Lib.hid hqt.2.2
          obtain ⟨z, hz⟩ : ∃ z, z = q.length := ⟨_, rfl⟩
          have Hz := Lib.hid hz
          obtain ⟨hz1, hz2, -⟩ := hqt
          rw [← hz] at hrow hz1 hz2
          have hg1 : decide ((n2 : Int) ≤ (z : Int)) = true := decide_eq_true (by omega)
          have hg2 : decide ((z : Int) ≤ (n2 : Int) + (n3 : Int)) = true := decide_eq_true (by omega)
          have Hrow := Lib.hid hrow
          have hform : v = .slice none 0 0 ∧ z = 0 ∨ ∃ g5 c5, v = .slice (some ⟨g5, 0, none⟩) z c5 ∧ z ≤ c5 ∧ c5 ≤ maxLen := by
            rcases hrow.2 with h | ⟨g5, c5, cur, e, -, -, h1, h2, -⟩
            · exact Or.inl h
            · exact Or.inr ⟨g5, c5, e, h1, h2⟩
          clear hrow hz hq hg
          rcases hform with ⟨rfl, rfl⟩ | ⟨g5, c5, rfl, hzc, hcm⟩
          · obtain rfl : n2 = 0 := by omega
            have Hs := Lib.hid (SameBytes_any w14 w14.heap.size w.heap.size none A2 0 0 0 c2 [] l2 ⟨rfl, fun h => absurd h (by omega)⟩ (HR2.out w14 (Hw.out w14 Hb14.out)) (Nat.zero_le _) (Nat.zero_le _))
            go_wp2_with fail
            refine Hs.out.mono ?_
            rintro e w15 ⟨rfl, q9, rfl⟩
            rw [show l2 = [] from List.eq_nil_of_length_eq_zero Hl2.out, sameL_self]
            go_wp2_with fail
            go_ret
            exact ⟨rfl, Hw.out _ (Hb14.out.trans (Below.mono (below_drewN _ _) Hb14.out.size))⟩
          · have hR5 : BytesAt w14 w14.heap.size (some ⟨g5, 0, none⟩) n2 l2 := by
              obtain ⟨A5, c6, e5, -, -, h⟩ := own_reads Hrow.out
              injection e5 with e5 e6 e7
              subst e5
              have h2 : BytesAt w14 w14.heap.size (some ⟨g5, 0, none⟩) z q := h
              have := h2.head n2 hz2
              rwa [Hqt.out] at this
            have Hs := Lib.hid (SameBytes_any w14 w14.heap.size w.heap.size (some ⟨g5, 0, none⟩) A2 n2 c5 n2 c2 l2 l2 hR5 (HR2.out w14 (Hw.out w14 Hb14.out)) (by omega) (by unfold maxLen; omega))
            clear hR5
            go_wp2_with fail
            refine Hs.out.mono ?_
            rintro e w15 ⟨rfl, q9, rfl⟩
            rw [sameL_self]
            go_wp2_with fail
            go_ret
            exact ⟨rfl, Hw.out _ (Hb14.out.trans (Below.mono (below_drewN _ _) Hb14.out.size))⟩
end Go.Proofs.Ytcfhhekklakacaa
