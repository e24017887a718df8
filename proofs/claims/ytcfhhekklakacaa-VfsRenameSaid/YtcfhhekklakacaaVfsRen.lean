/-
  The walk of mudlarklaw04's VfsRename. (printed by gen/vren.py)
-/
import Derived.Test.YtcfhhekklakacaaVfsAwake
import Derived.Test.YtcfhhekklakacaaVfsDeed
namespace Go.Proofs.Ytcfhhekklakacaa
open Go.RowKit
set_option linter.unusedVariables false
def oldN : List UInt8 := [111, 108, 100]
def newN : List UInt8 := [110, 101, 119]
/-- the disk ahead of the rename -/
def renS6 (i1 i2 : Nat) (l0 l1 : List UInt8) : St :=
  let S1 := newS.create oldN i1
  let S2 := S1.setF i1 ((S1.con i1).1 ++ l0, (S1.con i1).2)
  let S3 := S2.create newN i2
  let S4 := S3.setF i2 ((S3.con i2).1 ++ l1, (S3.con i2).2)
  (S4.sync i1).sync i2
def renS (i1 i2 : Nat) (l0 l1 : List UInt8) (sy : Bool) : St :=
  if sy then ((renS6 i1 i2 l0 l1).rename newN oldN i2).sync i2 else (renS6 i1 i2 l0 l1).rename newN oldN i2
section
variable {i1 i2 : Nat} {l0 l1 : List UInt8}
theorem ren_ne : newN ≠ oldN := by decide
def cur6 (i1 i2 : Nat) : FM := putF (putF newS.cur oldN (some i1)) newN (some i2)
def cur7 (i1 i2 : Nat) : FM := putF (putF (cur6 i1 i2) newN none) oldN (some i2)
theorem ren_rename : (renS6 i1 i2 l0 l1).rename newN oldN i2 = (renS6 i1 i2 l0 l1).more.wait (cur7 i1 i2) := by
  unfold St.rename
  rw [if_neg ren_ne]
  rfl
theorem ren6_con (h : i2 ≠ i1) : (renS6 i1 i2 l0 l1).con i1 = (l0, l0.length) ∧ (renS6 i1 i2 l0 l1).con i2 = (l1, l1.length) := by
  have h' : i1 ≠ i2 := fun e => h e.symm
  constructor
  · simp [renS6, St.setF, St.sync, St.clean, St.create, St.wait, St.more, St.file, h, h']
  · simp [renS6, St.setF, St.sync, St.clean, St.create, St.wait, St.more, St.file, h, h']
theorem ren_con (h : i2 ≠ i1) (sy : Bool) : (renS i1 i2 l0 l1 sy).con i1 = (l0, l0.length) ∧ (renS i1 i2 l0 l1 sy).con i2 = (l1, l1.length) := by
  obtain ⟨a, b⟩ := ren6_con (l0 := l0) (l1 := l1) h
  have h' : i1 ≠ i2 := fun e => h e.symm
  have e1 : ((renS6 i1 i2 l0 l1).rename newN oldN i2).con = (renS6 i1 i2 l0 l1).con := by rw [ren_rename]; rfl
  unfold renS
  cases sy with
  | false =>
    simp only [Bool.false_eq_true, if_false, e1]
    exact ⟨a, b⟩
  | true =>
    simp only [if_true]
    constructor
    · simp [St.sync, St.clean, St.setF, h', e1, a]
    · simp [St.sync, St.clean, St.setF, e1, b]
theorem ren_ids (sy : Bool) : i1 ∈ (renS i1 i2 l0 l1 sy).ids ∧ i2 ∈ (renS i1 i2 l0 l1 sy).ids := by
  unfold renS
  cases sy
  · simp only [Bool.false_eq_true, if_false, ren_rename]
    simp [renS6, St.setF, St.sync, St.clean, St.create, St.wait, St.more, St.file]
  · simp only [if_true, ren_rename]
    simp [renS6, St.setF, St.sync, St.clean, St.create, St.wait, St.more, St.file]
theorem ren_all {M : FM} {sy : Bool} (h : M ∈ (renS i1 i2 l0 l1 sy).all) : (sy = false ∧ M = cur6 i1 i2) ∨ M = cur7 i1 i2 := by
  unfold renS at h
  cases sy
  · simp only [Bool.false_eq_true, if_false, ren_rename] at h
    rw [wait_all] at h
    rcases List.mem_append.1 h with h | h
    · refine Or.inl ⟨rfl, ?_⟩
      have e : (renS6 i1 i2 l0 l1).more.all = [cur6 i1 i2] := rfl
      rw [e] at h
      simpa using h
    · exact Or.inr (by simpa using h)
  · simp only [if_true, ren_rename] at h
    have e : (((renS6 i1 i2 l0 l1).more.wait (cur7 i1 i2)).sync i2).all = [cur7 i1 i2] := rfl
    rw [e] at h
    exact Or.inr (by simpa using h)
theorem ren_small (sy : Bool) : ({ renS i1 i2 l0 l1 sy with down := true } : St).maps.length ≤ 1000000 ∧ ({ renS i1 i2 l0 l1 sy with down := true } : St).n ≤ 900000000 := by
  unfold renS
  cases sy
  · simp only [Bool.false_eq_true, if_false, ren_rename]
    exact ⟨show 1 ≤ 1000000 by omega, show 3 ≤ 900000000 by omega⟩
  · simp only [if_true, ren_rename]
    exact ⟨show 0 ≤ 1000000 by omega, show 3 ≤ 900000000 by omega⟩
theorem cur6_old : cur6 i1 i2 oldN = some i1 := by
  unfold cur6
  rw [putF_ne _ _ (fun e => ren_ne e.symm), putF_self]
theorem cur6_new : cur6 i1 i2 newN = some i2 := putF_self _ _ _
theorem cur7_old : cur7 i1 i2 oldN = some i2 := putF_self _ _ _
theorem cur7_new : cur7 i1 i2 newN = none := by
  unfold cur7
  rw [putF_ne _ _ ren_ne, putF_self]
theorem old_right : rightB ⟨#[111, 108, 100]⟩ = true := by decide +kernel
theorem new_right : rightB ⟨#[110, 101, 119]⟩ = true := by decide +kernel
end
theorem below_drewN {w : World} (q : Nat) : Below w.heap.size w (w.drewN q) := Grow.drewN w q
theorem ReadsAt.keepG {w W W' : World} {B g n : Nat} {A : Option Addr} {xs : List Value} (h : ∀ W', Below w.heap.size w W' → ReadsAt W' w.heap.size 1 A n xs) (hb : Below w.heap.size w W) (hg : w.heap.size ≤ g) (hW : w.heap.size ≤ W.heap.size) (hk : Keep (fun j => j = g) W W') : ReadsAt W' w.heap.size 1 A n xs :=
  h W' (hb.trans (hk.below (fun j hj => by rw [hj]; exact hg) hW))
set_option maxRecDepth 100000 in
set_option maxHeartbeats 4000000 in
theorem vren_walk (w : World) (A0 A1 A4 : Option Addr) (n0 c0 n1 c1 n4 c4 : Nat) (l0 l1 : List UInt8) (l4 : List Int) (sy : Bool) (dirs : Int) (hR0 : BytesAt w w.heap.size A0 n0 l0) (hn0 : n0 ≤ c0) (hc0 : n0 ≤ 140737488351232) (hR1 : BytesAt w w.heap.size A1 n1 l1) (hn1 : n1 ≤ c1) (hc1 : n1 ≤ 140737488351232)
    (hR4 : IntsAt w w.heap.size A4 n4 l4) (hn4 : n4 ≤ c4) (hc4 : c4 ≤ 17592186043904) (hl4 : ∀ x ∈ l4, -9223372036854775808 ≤ x ∧ x ≤ 9223372036854775807) (hdirs : -9223372036854775808 ≤ dirs ∧ dirs ≤ 9223372036854775807) :
    Calls Try.prog 3 #[.slice A0 n0 c0, .slice A1 n1 c1, .bool sy, .int .i64 dirs, .slice A4 n4 c4] w fun e w' => e = .returned (.bool true) ∧ Below w.heap.size w w' := by
  have Hl0 := Lib.hid hR0.len
  have Hl1 := Lib.hid hR1.len
  have HR0 := Lib.hid (show ∀ W, Below w.heap.size w W → ReadsAt W w.heap.size 1 A0 n0 (l0.map b8) from fun W h => hR0.below h)
  have HR1 := Lib.hid (show ∀ W, Below w.heap.size w W → ReadsAt W w.heap.size 1 A1 n1 (l1.map b8) from fun W h => hR1.below h)
  have HR4 := Lib.hid (show ∀ W, Below w.heap.size w W → ReadsAt W w.heap.size 1 A4 n4 (l4.map (.int .i64 ·)) from fun W h => hR4.below h)
  have Hl4 := Lib.hid hl4
  clear hR0 hR1 hR4 hl4
  have hconv : True := trivial
  go_enter Try.func3, Try.ntmps3
  go_wp2_with fail
  refine (awake04_any w).mono ?_
  rintro e w1 ⟨rfl, hb⟩
  have Hb1 := Lib.hid hb
  clear hb
  by_cases hbig : 3000 < n0 + n1 + n4
  · have hgt : decide ((3000 : Int) < (n0 : Int) + (n1 : Int) + (n4 : Int)) = true := decide_eq_true (by omega)
    have hgt2 : decide (3000 < n0 + n1 + n4) = true := decide_eq_true (by omega)
    go_wp2_with fail
    go_ret
    exact ⟨rfl, Hb1.out⟩
  have hgt : decide ((3000 : Int) < (n0 : Int) + (n1 : Int) + (n4 : Int)) = false := decide_eq_false (by omega)
  have hgt2 : decide (3000 < n0 + n1 + n4) = false := decide_eq_false (by omega)
  go_wp2_with fail
  refine (vNew_any w1 100000 (by omega) (by omega)).mono ?_
  rintro e w2 ⟨rfl, hv, hg⟩
  have Hv := Lib.hid hv
  have Hg2 := Lib.hid (show Below w1.heap.size w1 w2 from hg)
  clear hv hg
  have Hw := Lib.hid (show ∀ W, Below w1.heap.size w1 W → Below w.heap.size w W from fun W h => Hb1.out.trans (Below.mono h Hb1.out.size))
  go_wp2_with fail
  refine (q_create Hv.out Hg2.out.size newS_quiet ⟨#[111, 108, 100]⟩ (by decide) (by omega) old_right rfl).mono ?_
  rintro e w3 ⟨rfl, hb, i1, -, hv, hq⟩
  have Hv3 := Lib.hid hv
  have Hq3 := Lib.hid hq
  have Hb3 := Lib.hid (Hg2.out.trans hb)
  clear hb hv hq
  go_wp2_with fail
  refine (q_append (B := w.heap.size) Hv3.out Hb3.out.size Hq3.out ⟨#[111, 108, 100]⟩ (by decide) A0 n0 c0 l0 Hl0.out (fun W hk => HR0.out W (Hw.out W (Hb3.out.trans (hk.below (fun j hj => by rw [hj]; omega) Hb3.out.size)))) (by omega) (by omega) (id := i1) (show putF newS.cur oldN (some i1) oldN = some i1 from putF_self _ _ _)).mono ?_
  rintro e w4 ⟨rfl, hb, hv, hq⟩
  have Hv4 := Lib.hid hv
  have Hq4 := Lib.hid hq
  have Hb4 := Lib.hid (Hb3.out.trans hb)
  clear hb hv hq
  go_wp2_with fail
  refine (q_create Hv4.out Hb4.out.size Hq4.out ⟨#[110, 101, 119]⟩ (by decide) (by omega) new_right (show putF newS.cur oldN (some i1) newN = none from putF_ne _ _ ren_ne)).mono ?_
  rintro e w5 ⟨rfl, hb, i2, hi2, hv, hq⟩
  have Hi2 := Lib.hid (show i2 ≠ i1 from fun e => hi2 (by simp [e, St.setF, St.create, St.wait, St.more, St.file]))
  have Hv5 := Lib.hid hv
  have Hq5 := Lib.hid hq
  have Hb5 := Lib.hid (Hb4.out.trans hb)
  clear hb hv hq hi2
  go_wp2_with fail
  refine (q_append (B := w.heap.size) Hv5.out Hb5.out.size Hq5.out ⟨#[110, 101, 119]⟩ (by decide) A1 n1 c1 l1 Hl1.out (fun W hk => HR1.out W (Hw.out W (Hb5.out.trans (hk.below (fun j hj => by rw [hj]; omega) Hb5.out.size)))) (by omega) (by omega) (id := i2) (cur6_new (i1 := i1))).mono ?_
  rintro e w6 ⟨rfl, hb, hv, hq⟩
  have Hv6 := Lib.hid hv
  have Hq6 := Lib.hid hq
  have Hb6 := Lib.hid (Hb5.out.trans hb)
  clear hb hv hq
  go_wp2_with fail
  refine (q_sync Hv6.out Hb6.out.size Hq6.out ⟨#[111, 108, 100]⟩ (by decide) (id := i1) (cur6_old (i2 := i2))).mono ?_
  rintro e w7 ⟨rfl, hb, hv, hq⟩
  have Hv7 := Lib.hid hv
  have Hq7 := Lib.hid hq
  have Hb7 := Lib.hid (Hb6.out.trans hb)
  clear hb hv hq
  go_wp2_with fail
  refine (q_sync Hv7.out Hb7.out.size Hq7.out ⟨#[110, 101, 119]⟩ (by decide) (id := i2) (cur6_new (i1 := i1))).mono ?_
  rintro e w8 ⟨rfl, hb, hv, hq⟩
  have Hv8 := Lib.hid (show VAt w8 (w1.heap.size + 1) w1.heap.size 100000 (renS6 i1 i2 l0 l1) from hv)
  have Hq8 := Lib.hid (show Quiet (renS6 i1 i2 l0 l1) _ _ from hq)
  have Hb8 := Lib.hid (Hb7.out.trans hb)
  clear hb hv hq
  go_wp2_with fail
  refine (q_rename Hv8.out Hb8.out.size Hq8.out ⟨#[110, 101, 119]⟩ ⟨#[111, 108, 100]⟩ (by decide) (by decide) (by omega) (by rw [old_right, new_right]; rfl) (id := i2) (cur6_new (i1 := i1))).mono ?_
  rintro e w9 ⟨rfl, hb, hv, hq⟩
  have Hv9 := Lib.hid (show VAt w9 (w1.heap.size + 1) w1.heap.size 100000 (renS i1 i2 l0 l1 false) from hv)
  have Hq9 := Lib.hid (show Quiet (renS i1 i2 l0 l1 false) _ _ from hq)
  have Hb9 := Lib.hid (Hb8.out.trans hb)
  clear hb hv hq Hv Hv3 Hv4 Hv5 Hv6 Hv7 Hv8 Hq3 Hq4 Hq5 Hq6 Hq7 Hq8
  cases sy with
  | false =>
    go_wp2_with fail
    refine (vCrash_any _ _ _ _ _ Hv9.out Hb9.out.size).mono ?_
    rintro e w11 ⟨rfl, hv, hb⟩
    have Hv11 := Lib.hid hv
    have Hb11 := Lib.hid (Hb9.out.trans hb)
    clear hb hv
    go_wp2_with fail
    refine (vWake_any w11 _ _ _ _ Hv11.out Hb11.out.size dirs hdirs A4 n4 c4 w.heap.size l4 hn4 (by unfold maxLen; omega) (fun W hk => HR4.out W (Hw.out W (Hb11.out.trans hk.1))) Hl4.out (ren_small false).1 (ren_small false).2).mono ?_
    rintro e w12 ⟨x, rfl, hik, ⟨hd, -, -⟩ | ⟨-, rfl, M, con, n, hM, -, hcon, -, hv⟩⟩
    · cases hd
    have hMM := ren_all (sy := false) hM
    have hq1 : (con i1).1 = l0 := by
      have h := hcon i1 (ren_ids false).1
      rw [show ({ renS i1 i2 l0 l1 false with down := true } : St).con i1 = _ from (ren_con Hi2.out false).1] at h
      exact h.2.2.2.2 rfl
    have hq2 : (con i2).1 = l1 := by
      have h := hcon i2 (ren_ids false).2
      rw [show ({ renS i1 i2 l0 l1 false with down := true } : St).con i2 = _ from (ren_con Hi2.out false).2] at h
      exact h.2.2.2.2 rfl
    have Hq1 := Lib.hid hq1
    have Hq2 := Lib.hid hq2
    have Hv12 := Lib.hid hv
    have Hb12 := Lib.hid (Hb11.out.trans hik.1)
    clear hq1 hq2 hv hik hcon hM
    rcases hMM with ⟨-, rfl⟩ | rfl
    · go_wp2_with fail
      refine (vRead_any w12 _ _ _ _ Hv12.out ⟨#[111, 108, 100]⟩ (by decide) 3000 (by omega)).mono ?_
      rintro e w13 ⟨hg, ⟨hd, -⟩ | ⟨-, hc, -⟩ | ⟨-, id, v, hc, rfl, hrow⟩⟩
      · cases hd
      · have hc : cur6 i1 i2 oldN = none := hc
        rw [cur6_old] at hc
        cases hc
      have hc : cur6 i1 i2 oldN = some id := hc
      rw [cur6_old] at hc
      injection hc with hc
      subst hc
      rw [show (({ renS i1 i2 l0 l1 false with down := true } : St).woken (cur6 i1 i2) con n).con i1 = con i1 from rfl, Hq1.out, List.take_of_length_le (by have := Hl0.out; have := Hl1.out; omega)] at hrow
      have Hrow := Lib.hid hrow
      have Hv13 := Lib.hid (Hv12.out.grow hg)
      have Hb13 := Lib.hid (Hb12.out.trans (Below.mono hg Hb12.out.size))
      clear hrow hg
      go_wp2_with fail
      refine (vRead_any w13 _ _ _ _ Hv13.out ⟨#[110, 101, 119]⟩ (by decide) 3000 (by omega)).mono ?_
      rintro e w14 ⟨hg, ⟨hd, -⟩ | ⟨-, hc, -⟩ | ⟨-, id, v2, hc, rfl, hrow⟩⟩
      · cases hd
      · have hc : cur6 i1 i2 newN = none := hc
        rw [cur6_new] at hc
        cases hc
      have hc : cur6 i1 i2 newN = some id := hc
      rw [cur6_new] at hc
      injection hc with hc
      subst hc
      rw [show (({ renS i1 i2 l0 l1 false with down := true } : St).woken (cur6 i1 i2) con n).con i2 = con i2 from rfl, Hq2.out, List.take_of_length_le (by have := Hl1.out; omega)] at hrow
      have Hrow2 := Lib.hid hrow
      have Hrow1 := Lib.hid (own_below Hrow.out hg)
      have Hb14 := Lib.hid (Hb13.out.trans (Below.mono hg Hb13.out.size))
      clear hrow hg
      obtain ⟨A5, c5, rfl, hnc5, hcm5, hR5⟩ := own_reads Hrow1.out
      obtain ⟨A6, c6, rfl, hnc6, hcm6, hR6⟩ := own_reads Hrow2.out
      have Hs1 := Lib.hid (SameBytes_any w14 w14.heap.size w.heap.size A5 A0 l0.length c5 n0 c0 l0 l0 hR5 (HR0.out w14 (Hw.out w14 Hb14.out)) (Nat.le_trans hnc5 hcm5) (by unfold maxLen; omega))
      have Hs2 := Lib.hid (show ∀ q, Calls Try.prog 14 #[.slice A6 l1.length c6, .slice A1 n1 c1] (w14.drewN q) (fun e w' => e = .returned (.bool (sameL l1 l1)) ∧ ∃ q2, (w14.drewN q).drewN q2 = w') from fun q => SameBytes_any (w14.drewN q) w14.heap.size w.heap.size A6 A1 l1.length c6 n1 c1 l1 l1 (hR6.below (below_drewN q)) (HR1.out _ (Hw.out _ (Hb14.out.trans (Below.mono (below_drewN q) Hb14.out.size)))) (Nat.le_trans hnc6 hcm6) (by unfold maxLen; omega))
      clear hR5 hR6
      go_wp2_with fail
      refine Hs1.out.mono ?_
      rintro e w15 ⟨rfl, q, rfl⟩
      rw [sameL_self]
      go_wp2_with fail
      refine (Hs2.out q).mono ?_
      rintro e w16 ⟨rfl, q2, rfl⟩
      rw [sameL_self]
      go_wp2_with fail
      go_ret
      exact ⟨rfl, Hw.out _ (Hb14.out.trans (Below.mono (below_drewN (q + q2)) Hb14.out.size))⟩
    · go_wp2_with fail
      refine (vRead_any w12 _ _ _ _ Hv12.out ⟨#[111, 108, 100]⟩ (by decide) 3000 (by omega)).mono ?_
      rintro e w13 ⟨hg, ⟨hd, -⟩ | ⟨-, hc, -⟩ | ⟨-, id, v, hc, rfl, hrow⟩⟩
      · cases hd
      · have hc : cur7 i1 i2 oldN = none := hc
        rw [cur7_old] at hc
        cases hc
      have hc : cur7 i1 i2 oldN = some id := hc
      rw [cur7_old] at hc
      injection hc with hc
      subst hc
      rw [show (({ renS i1 i2 l0 l1 false with down := true } : St).woken (cur7 i1 i2) con n).con i2 = con i2 from rfl, Hq2.out, List.take_of_length_le (by have := Hl0.out; have := Hl1.out; omega)] at hrow
      have Hrow := Lib.hid hrow
      have Hv13 := Lib.hid (Hv12.out.grow hg)
      have Hb13 := Lib.hid (Hb12.out.trans (Below.mono hg Hb12.out.size))
      clear hrow hg
      go_wp2_with fail
      refine (vRead_any w13 _ _ _ _ Hv13.out ⟨#[110, 101, 119]⟩ (by decide) 3000 (by omega)).mono ?_
      rintro e w14 ⟨hg, ⟨hd, -⟩ | ⟨-, hc, rfl⟩ | ⟨-, id, v2, hc, -, -⟩⟩
      · cases hd
      rotate_left
      · have hc : cur7 i1 i2 newN = some id := hc
        rw [cur7_new] at hc
        cases hc
      have Hrow1 := Lib.hid (own_below Hrow.out hg)
      have Hb14 := Lib.hid (Hb13.out.trans (Below.mono hg Hb13.out.size))
      clear hg hc
      obtain ⟨A5, c5, rfl, hnc5, hcm5, hR5⟩ := own_reads Hrow1.out
      have Hs1 := Lib.hid (SameBytes_any w14 w14.heap.size w.heap.size A5 A1 l1.length c5 n1 c1 l1 l1 hR5 (HR1.out w14 (Hw.out w14 Hb14.out)) (Nat.le_trans hnc5 hcm5) (by unfold maxLen; omega))
      clear hR5
      go_wp2_with fail
      refine Hs1.out.mono ?_
      rintro e w15 ⟨rfl, q, rfl⟩
      rw [sameL_self]
      go_wp2_with fail
      go_ret
      exact ⟨rfl, Hw.out _ (Hb14.out.trans (Below.mono (below_drewN q) Hb14.out.size))⟩
  | true =>
    go_wp2_with fail
    refine (q_sync Hv9.out Hb9.out.size Hq9.out ⟨#[111, 108, 100]⟩ (by decide) (id := i2) (show cur7 i1 i2 oldN = some i2 from cur7_old)).mono ?_
    rintro e w10 ⟨rfl, hb, hv, hq⟩
    have Hv10 := Lib.hid (show VAt w10 (w1.heap.size + 1) w1.heap.size 100000 (renS i1 i2 l0 l1 true) from hv)
    have Hb10 := Lib.hid (Hb9.out.trans hb)
    clear hb hv hq Hv9
    go_wp2_with fail
    refine (vCrash_any _ _ _ _ _ Hv10.out Hb10.out.size).mono ?_
    rintro e w11 ⟨rfl, hv, hb⟩
    have Hv11 := Lib.hid hv
    have Hb11 := Lib.hid (Hb10.out.trans hb)
    clear hb hv
    go_wp2_with fail
    refine (vWake_any w11 _ _ _ _ Hv11.out Hb11.out.size dirs hdirs A4 n4 c4 w.heap.size l4 hn4 (by unfold maxLen; omega) (fun W hk => HR4.out W (Hw.out W (Hb11.out.trans hk.1))) Hl4.out (ren_small true).1 (ren_small true).2).mono ?_
    rintro e w12 ⟨x, rfl, hik, ⟨hd, -, -⟩ | ⟨-, rfl, M, con, n, hM, -, hcon, -, hv⟩⟩
    · cases hd
    have hMM := ren_all (sy := true) hM
    have hq1 : (con i1).1 = l0 := by
      have h := hcon i1 (ren_ids true).1
      rw [show ({ renS i1 i2 l0 l1 true with down := true } : St).con i1 = _ from (ren_con Hi2.out true).1] at h
      exact h.2.2.2.2 rfl
    have hq2 : (con i2).1 = l1 := by
      have h := hcon i2 (ren_ids true).2
      rw [show ({ renS i1 i2 l0 l1 true with down := true } : St).con i2 = _ from (ren_con Hi2.out true).2] at h
      exact h.2.2.2.2 rfl
    have Hq1 := Lib.hid hq1
    have Hq2 := Lib.hid hq2
    have Hv12 := Lib.hid hv
    have Hb12 := Lib.hid (Hb11.out.trans hik.1)
    clear hq1 hq2 hv hik hcon hM
    obtain rfl : M = cur7 i1 i2 := hMM.elim (fun h => by cases h.1) id
    go_wp2_with fail
    refine (vRead_any w12 _ _ _ _ Hv12.out ⟨#[111, 108, 100]⟩ (by decide) 3000 (by omega)).mono ?_
    rintro e w13 ⟨hg, ⟨hd, -⟩ | ⟨-, hc, -⟩ | ⟨-, id, v, hc, rfl, hrow⟩⟩
    · cases hd
    · have hc : cur7 i1 i2 oldN = none := hc
      rw [cur7_old] at hc
      cases hc
    have hc : cur7 i1 i2 oldN = some id := hc
    rw [cur7_old] at hc
    injection hc with hc
    subst hc
    rw [show (({ renS i1 i2 l0 l1 true with down := true } : St).woken (cur7 i1 i2) con n).con i2 = con i2 from rfl, Hq2.out, List.take_of_length_le (by have := Hl0.out; have := Hl1.out; omega)] at hrow
    have Hrow := Lib.hid hrow
    have Hv13 := Lib.hid (Hv12.out.grow hg)
    have Hb13 := Lib.hid (Hb12.out.trans (Below.mono hg Hb12.out.size))
    clear hrow hg
    go_wp2_with fail
    refine (vRead_any w13 _ _ _ _ Hv13.out ⟨#[110, 101, 119]⟩ (by decide) 3000 (by omega)).mono ?_
    rintro e w14 ⟨hg, ⟨hd, -⟩ | ⟨-, hc, rfl⟩ | ⟨-, id, v2, hc, -, -⟩⟩
    · cases hd
    rotate_left
    · have hc : cur7 i1 i2 newN = some id := hc
      rw [cur7_new] at hc
      cases hc
    have Hrow1 := Lib.hid (own_below Hrow.out hg)
    have Hb14 := Lib.hid (Hb13.out.trans (Below.mono hg Hb13.out.size))
    clear hg hc
    obtain ⟨A5, c5, rfl, hnc5, hcm5, hR5⟩ := own_reads Hrow1.out
    have Hs1 := Lib.hid (SameBytes_any w14 w14.heap.size w.heap.size A5 A1 l1.length c5 n1 c1 l1 l1 hR5 (HR1.out w14 (Hw.out w14 Hb14.out)) (Nat.le_trans hnc5 hcm5) (by unfold maxLen; omega))
    clear hR5
    go_wp2_with fail
    refine Hs1.out.mono ?_
    rintro e w15 ⟨rfl, q, rfl⟩
    rw [sameL_self]
    go_wp2_with fail
    go_ret
    exact ⟨rfl, Hw.out _ (Hb14.out.trans (Below.mono (below_drewN q) Hb14.out.size))⟩
end Go.Proofs.Ytcfhhekklakacaa
