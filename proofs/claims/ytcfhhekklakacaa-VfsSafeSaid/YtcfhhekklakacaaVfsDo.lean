/-
  The walk of mudlarklaw04's do: whichever deed. (printed by gen/vdo.py)
-/
import Derived.Test.YtcfhhekklakacaaVfsLaw
import Derived.Test.YtcfhhekklakacaaVfsDeed
import Derived.Test.YtcfhhekklakacaaPick
namespace Go.Proofs.Ytcfhhekklakacaa
open Go.RowKit
set_option linter.unusedVariables false
theorem IntKeep.reads {base B : Nat} {w W : World} {A : Option Addr} {n : Nat} {xs : List Value} (h : ReadsAt w B 1 A n xs) (hB : B ≤ base) (hk : IntKeep base w W) : ReadsAt W B 1 A n xs :=
  h.below (Below.mono hk.1 hB)
/-- what a deed makes of a disk -/
def DoTo (base g : Nat) (room : Int) (S : St) (k : Nat) (nm to' : ByteArray) (len : Nat) (w w' : World) : Prop :=
  Below base w w' ∧ ∃ S', VAt w' g base room S' ∧ Stp (decide (k = 10)) nm.data.toList to'.data.toList len S S'
set_option maxRecDepth 100000 in
set_option maxHeartbeats 2000000 in
theorem do04_any (w : World) (g base B : Nat) (S : St) (h : VAt w g base 100000 S) (hb : base ≤ w.heap.size) (hB : B ≤ base) (what dn dm : Int) (nm to' : ByteArray) (A1 A2 : Option Addr) (n1 c1 n2 c2 : Nat) (bl : List UInt8) (tr : List Int)
    (hwhat : I64 what) (hdn : I64 dn) (hnm : nm.size ≤ 3000) (hto : to'.size ≤ 3000) (h1 : n1 ≤ c1 ∧ c1 ≤ 140737488351232 ∧ BytesAt w B A1 n1 bl) (h2 : n2 ≤ c2 ∧ c2 ≤ 17592186043904 ∧ IntsAt w B A2 n2 tr) (htr : ∀ x ∈ tr, I64 x)
    (hm : S.maps.length ≤ 1000) (hn : S.n ≤ 1000000) (hT : S.total + bl.length ≤ 50000) (k : Nat) (hk : pickI what 13 = (k : Int)) :
    Calls Try.prog 16 #[pg g, .agg #[.int .i64 what, .string nm, .string to', .int .i64 dn, .int .i64 dm, .slice A1 n1 c1, .slice A2 n2 c2]] w fun e w' => e = .returned (.tuple #[]) ∧ DoTo base g 100000 S k nm to' bl.length w w' := by
  obtain ⟨w1, hw1⟩ : ∃ w1, w.alloc (.cells #[.int .i64 what, .string nm, .string to', .int .i64 dn, .int .i64 dm, .slice A1 n1 c1, .slice A2 n2 c2] 42) = w1 := ⟨_, rfl⟩
  have hg1 : Grow w w1 := by rw [← hw1]; exact Grow.alloc _ _
  have hx : Blk w1 w.heap.size 42 #[.int .i64 what, .string nm, .string to', .int .i64 dn, .int .i64 dm, .slice A1 n1 c1, .slice A2 n2 c2] := by rw [← hw1]; exact Blk.new _ _ _
  have hc0 : w1.cell? ⟨w.heap.size, 0, none⟩ = some (.int .i64 what) := hx.cell 0
  have hc1 : w1.cell? ⟨w.heap.size, 1, none⟩ = some (.string nm) := hx.cell 1
  have hc2 : w1.cell? ⟨w.heap.size, 2, none⟩ = some (.string to') := hx.cell 2
  have hc3 : w1.cell? ⟨w.heap.size, 3, none⟩ = some (.int .i64 dn) := hx.cell 3
  have hc5 : w1.cell? ⟨w.heap.size, 5, none⟩ = some (.slice A1 n1 c1) := hx.cell 5
  have hc6 : w1.cell? ⟨w.heap.size, 6, none⟩ = some (.slice A2 n2 c2) := hx.cell 6
  have hv := h.grow hg1
  have hb1 : base ≤ w1.heap.size := Nat.le_trans hb hg1.size
  have Hbel := Lib.hid (Below.mono hg1 hb)
  have hge : base ≤ g := by
    obtain ⟨-, mb, uv, fs, t, c, rv, q⟩ := hv
    exact q.ge
  have hr1 : ∀ W, Keep (fun j => j = g) w1 W → ReadsAt W B 1 A1 n1 (bl.map b8) := fun W hk => h1.2.2.below (Below.mono (Hbel.out.trans (hk.below (B := base) (fun j hj => by rw [hj]; exact hge) hb1)) hB)
  have hr2 : ∀ W, IntKeep base w1 W → ReadsAt W B 1 A2 n2 (tr.map (.int .i64 ·)) := fun W hk => h2.2.2.below (Below.mono (Hbel.out.trans hk.1) hB)
  have hl1 : bl.length = n1 := h1.2.2.len
  have hbig1 : nm.size ≤ maxLen := by unfold maxLen; omega
  have hbig2 : to'.size ≤ maxLen := by unfold maxLen; omega
  have Hpick := Lib.hid (fun W : World => Pick_nat what 13 k W hk hwhat.1 hwhat.2 (by omega))
  have Hg1 := Lib.hid hg1
  have Hwf := Lib.hid hv.1
  have Hstay := Lib.hid (show DoTo base g 100000 S k nm to' bl.length w w1 from ⟨Hbel.out, S, hv, Stp.same rfl rfl rfl rfl rfl⟩)
  have H0 := Lib.hid (show k = 0 → Calls Try.prog 7 #[pg g, .string nm] w1 fun e w' => (∃ v, e = .returned v) ∧ DoTo base g 100000 S k nm to' bl.length w w' from fun hkk => by
    refine (vCreate_any w1 g base 100000 S hv hb1 nm (by omega) (by omega) (by unfold maxLen; omega)).mono ?_
    rintro e w' ⟨hbel, ⟨-, rfl, hv2⟩ | ⟨-, -, rfl, hv2⟩ | ⟨-, -, -, rfl, hv2⟩ | ⟨-, -, -, rfl, id, hid, hv2⟩⟩
    · exact ⟨⟨_, rfl⟩, Hbel.out.trans hbel, _, hv2, Stp.turn⟩
    · exact ⟨⟨_, rfl⟩, Hbel.out.trans hbel, _, hv2, Stp.turn⟩
    · exact ⟨⟨_, rfl⟩, Hbel.out.trans hbel, _, hv2, Stp.turn⟩
    · exact ⟨⟨_, rfl⟩, Hbel.out.trans hbel, _, hv2, Stp.ofTurn (Stp.create (by rw [turnS_ids]; exact hid))⟩
  )
  have H1 := Lib.hid (show k = 1 → Calls Try.prog 8 #[pg g, .string nm, .slice A1 n1 c1] w1 fun e w' => (∃ v, e = .returned v) ∧ DoTo base g 100000 S k nm to' bl.length w w' from fun hkk => by
    refine (vAppend_any w1 g base B 100000 S hv hb1 nm hbig1 A1 n1 c1 bl hl1 hr1 (by omega) (by omega)).mono ?_
    rintro e w' ⟨x, rfl, hbel, ⟨-, -, hv2⟩ | ⟨-, -, -, hv2⟩ | ⟨-, id, hid, ⟨-, -, f, -, hv2⟩ | ⟨-, -, hv2⟩⟩⟩
    · exact ⟨⟨_, rfl⟩, Hbel.out.trans hbel, _, hv2, Stp.turn⟩
    · exact ⟨⟨_, rfl⟩, Hbel.out.trans hbel, _, hv2, Stp.turn⟩
    · exact ⟨⟨_, rfl⟩, Hbel.out.trans hbel, _, hv2, Stp.ofTurn (Stp.same rfl rfl rfl rfl rfl)⟩
    · exact ⟨⟨_, rfl⟩, Hbel.out.trans hbel, _, hv2, Stp.ofTurn (Stp.file (id := id) (p := ((S.con id).1 ++ bl, (S.con id).2)) hv.1.turn (by rw [turnS_cur]; exact hid) (by rw [turnS_con]; simp) (Or.inl rfl) rfl rfl rfl rfl)⟩
  )
  have H4 := Lib.hid (show k = 4 → Calls Try.prog 9 #[pg g, .string nm] w1 fun e w' => (∃ v, e = .returned v) ∧ DoTo base g 100000 S k nm to' bl.length w w' from fun hkk => by
    refine (vSync_any w1 g base 100000 S hv hb1 nm hbig1).mono ?_
    rintro e w' ⟨x, rfl, hbel, ⟨-, -, hv2⟩ | ⟨-, -, -, hv2⟩ | ⟨-, -, id, hid, hv2⟩⟩
    · exact ⟨⟨_, rfl⟩, Hbel.out.trans hbel, _, hv2, Stp.turn⟩
    · exact ⟨⟨_, rfl⟩, Hbel.out.trans hbel, _, hv2, Stp.turn⟩
    · exact ⟨⟨_, rfl⟩, Hbel.out.trans hbel, _, hv2, Stp.ofTurn (Stp.file (id := id) (p := (((turnS S).con id).1, ((turnS S).con id).1.length)) hv.1.turn (by rw [turnS_cur]; exact hid) (Nat.le_add_right _ _) (Or.inr rfl) rfl rfl rfl rfl)⟩
  )
  have H5 := Lib.hid (show k = 5 → Calls Try.prog 10 #[pg g, .string nm, .string to'] w1 fun e w' => (∃ v, e = .returned v) ∧ DoTo base g 100000 S k nm to' bl.length w w' from fun hkk => by
    refine (vRename_any w1 g base 100000 S hv hb1 nm to' (by omega) (by omega) (by omega) (by unfold maxLen; omega)).mono ?_
    rintro e w' ⟨x, rfl, hbel, ⟨-, -, hv2⟩ | ⟨-, -, -, hv2⟩ | ⟨-, -, -, -, hv2⟩ | ⟨-, -, -, id, hid, hv2⟩⟩
    · exact ⟨⟨_, rfl⟩, Hbel.out.trans hbel, _, hv2, Stp.turn⟩
    · exact ⟨⟨_, rfl⟩, Hbel.out.trans hbel, _, hv2, Stp.turn⟩
    · exact ⟨⟨_, rfl⟩, Hbel.out.trans hbel, _, hv2, Stp.turn⟩
    · exact ⟨⟨_, rfl⟩, Hbel.out.trans hbel, _, hv2, Stp.ofTurn Stp.rename⟩
  )
  have H6 := Lib.hid (show k = 6 → Calls Try.prog 19 #[pg g, .string nm] w1 fun e w' => (∃ v, e = .returned v) ∧ DoTo base g 100000 S k nm to' bl.length w w' from fun hkk => by
    refine (vRemove_any w1 g base 100000 S hv hb1 nm hbig1 (by omega)).mono ?_
    rintro e w' ⟨x, rfl, hbel, ⟨-, -, hv2⟩ | ⟨-, -, -, hv2⟩ | ⟨-, -, id, hid, hv2⟩⟩
    · exact ⟨⟨_, rfl⟩, Hbel.out.trans hbel, _, hv2, Stp.turn⟩
    · exact ⟨⟨_, rfl⟩, Hbel.out.trans hbel, _, hv2, Stp.turn⟩
    · exact ⟨⟨_, rfl⟩, Hbel.out.trans hbel, _, hv2, Stp.ofTurn Stp.remove⟩
  )
  have H7 := Lib.hid (show k = 7 → Calls Try.prog 17 #[pg g, .int .i64 dn] w1 fun e w' => (∃ v, e = .returned v) ∧ DoTo base g 100000 S k nm to' bl.length w w' from fun hkk => by
    refine (vArm_any w1 g base 100000 S dn hv hb1 hdn.2).mono ?_
    rintro e w' ⟨rfl, hv2, hbel⟩
    exact ⟨⟨_, rfl⟩, Hbel.out.trans hbel, _, hv2, by unfold St.arm; split <;> exact Stp.same rfl rfl rfl rfl rfl⟩
  )
  have H8 := Lib.hid (show k = 8 → Calls Try.prog 18 #[pg g, .int .i64 dn] w1 fun e w' => (∃ v, e = .returned v) ∧ DoTo base g 100000 S k nm to' bl.length w w' from fun hkk => by
    refine (vFull_any w1 g base 100000 S dn hv hb1 hdn.2).mono ?_
    rintro e w' ⟨rfl, hv2, hbel⟩
    exact ⟨⟨_, rfl⟩, Hbel.out.trans hbel, _, hv2, by unfold St.fill; split <;> exact Stp.same rfl rfl rfl rfl rfl⟩
  )
  have H9 := Lib.hid (show k = 9 → Calls Try.prog 11 #[pg g] w1 fun e w' => (∃ v, e = .returned v) ∧ DoTo base g 100000 S k nm to' bl.length w w' from fun hkk => by
    refine (vCrash_any w1 g base 100000 S hv hb1).mono ?_
    rintro e w' ⟨rfl, hv2, hbel⟩
    exact ⟨⟨_, rfl⟩, Hbel.out.trans hbel, _, hv2, Stp.same rfl rfl rfl rfl rfl⟩
  )
  have H10 := Lib.hid (show k = 10 → Calls Try.prog 12 #[pg g, .int .i64 dn, .slice A2 n2 c2] w1 fun e w' => (∃ v, e = .returned v) ∧ DoTo base g 100000 S k nm to' bl.length w w' from fun hkk => by
    refine (vWake_any w1 g base 100000 S hv hb1 dn hdn A2 n2 c2 B tr h2.1 (by have := h2.2.1; unfold maxLen; omega) hr2 (fun x hx => htr x hx) (by omega) (by omega)).mono ?_
    rintro e w' ⟨x, rfl, hbel, ⟨-, -, hv2⟩ | ⟨-, -, M, con, n, -, hnn, hcon, -, hv2⟩⟩
    · exact ⟨⟨_, rfl⟩, Hbel.out.trans hbel.1, _, hv2, Stp.same rfl rfl rfl rfl rfl⟩
    · exact ⟨⟨_, rfl⟩, Hbel.out.trans hbel.1, _, hv2, by rw [hkk]; exact Stp.wake hnn hcon⟩
  )
  have hk13 : k < 13 := by
    have := pickI_lt what 13 (by omega)
    omega
  clear hk hx hwhat hto hnm h1 h2 hr1 hr2 hl1 hbig1 hbig2 hb hb1 hv h hge hg1 htr hT hm hn
  rcases (show k = 0 ∨ k = 1 ∨ k = 2 ∨ k = 3 ∨ k = 4 ∨ k = 5 ∨ k = 6 ∨ k = 7 ∨ k = 8 ∨ k = 9 ∨ k = 10 ∨ k = 11 ∨ k = 12 by omega) with rfl | rfl | rfl | rfl | rfl | rfl | rfl | rfl | rfl | rfl | rfl | rfl | rfl
  · go_enter Try.func16, Try.ntmps16
    go_upto_region 1 with (fail)
    (try rw [hw1])
    clear hw1
    go_wp2_with fail
    refine (Hpick.out w1).mono ?_
    rintro e w2 ⟨rfl, rfl⟩
    go_wp2_with fail
    refine (H0.out (by trivial)).mono ?_
    rintro e w3 ⟨⟨v3, rfl⟩, hdo⟩
    have Hdo := Lib.hid hdo
    clear hdo
    go_wp2_with fail
    refine Go.Great.bodyPost_end0 rfl rfl ?_
    exact ⟨rfl, Hdo.out⟩
  · go_enter Try.func16, Try.ntmps16
    go_upto_region 1 with (fail)
    (try rw [hw1])
    clear hw1
    go_wp2_with fail
    refine (Hpick.out w1).mono ?_
    rintro e w2 ⟨rfl, rfl⟩
    go_wp2_with fail
    refine (H1.out (by trivial)).mono ?_
    rintro e w3 ⟨⟨v3, rfl⟩, hdo⟩
    have Hdo := Lib.hid hdo
    clear hdo
    go_wp2_with fail
    refine Go.Great.bodyPost_end0 rfl rfl ?_
    exact ⟨rfl, Hdo.out⟩
  · go_enter Try.func16, Try.ntmps16
    go_upto_region 1 with (fail)
    (try rw [hw1])
    clear hw1
    go_wp2_with fail
    refine (Hpick.out w1).mono ?_
    rintro e w2 ⟨rfl, rfl⟩
    go_wp2_with fail
    refine Go.Great.bodyPost_end0 rfl rfl ?_
    exact ⟨rfl, Hstay.out⟩
  · go_enter Try.func16, Try.ntmps16
    go_upto_region 1 with (fail)
    (try rw [hw1])
    clear hw1
    go_wp2_with fail
    refine (Hpick.out w1).mono ?_
    rintro e w2 ⟨rfl, rfl⟩
    go_wp2_with fail
    refine Go.Great.bodyPost_end0 rfl rfl ?_
    exact ⟨rfl, Hstay.out⟩
  · go_enter Try.func16, Try.ntmps16
    go_upto_region 1 with (fail)
    (try rw [hw1])
    clear hw1
    go_wp2_with fail
    refine (Hpick.out w1).mono ?_
    rintro e w2 ⟨rfl, rfl⟩
    go_wp2_with fail
    refine (H4.out (by trivial)).mono ?_
    rintro e w3 ⟨⟨v3, rfl⟩, hdo⟩
    have Hdo := Lib.hid hdo
    clear hdo
    go_wp2_with fail
    refine Go.Great.bodyPost_end0 rfl rfl ?_
    exact ⟨rfl, Hdo.out⟩
  · go_enter Try.func16, Try.ntmps16
    go_upto_region 1 with (fail)
    (try rw [hw1])
    clear hw1
    go_wp2_with fail
    refine (Hpick.out w1).mono ?_
    rintro e w2 ⟨rfl, rfl⟩
    go_wp2_with fail
    refine (H5.out (by trivial)).mono ?_
    rintro e w3 ⟨⟨v3, rfl⟩, hdo⟩
    have Hdo := Lib.hid hdo
    clear hdo
    go_wp2_with fail
    refine Go.Great.bodyPost_end0 rfl rfl ?_
    exact ⟨rfl, Hdo.out⟩
  · go_enter Try.func16, Try.ntmps16
    go_upto_region 1 with (fail)
    (try rw [hw1])
    clear hw1
    go_wp2_with fail
    refine (Hpick.out w1).mono ?_
    rintro e w2 ⟨rfl, rfl⟩
    go_wp2_with fail
    refine (H6.out (by trivial)).mono ?_
    rintro e w3 ⟨⟨v3, rfl⟩, hdo⟩
    have Hdo := Lib.hid hdo
    clear hdo
    go_wp2_with fail
    refine Go.Great.bodyPost_end0 rfl rfl ?_
    exact ⟨rfl, Hdo.out⟩
  · go_enter Try.func16, Try.ntmps16
    go_upto_region 1 with (fail)
    (try rw [hw1])
    clear hw1
    go_wp2_with fail
    refine (Hpick.out w1).mono ?_
    rintro e w2 ⟨rfl, rfl⟩
    go_wp2_with fail
    refine (H7.out (by trivial)).mono ?_
    rintro e w3 ⟨⟨v3, rfl⟩, hdo⟩
    have Hdo := Lib.hid hdo
    clear hdo
    go_wp2_with fail
    refine Go.Great.bodyPost_end0 rfl rfl ?_
    exact ⟨rfl, Hdo.out⟩
  · go_enter Try.func16, Try.ntmps16
    go_upto_region 1 with (fail)
    (try rw [hw1])
    clear hw1
    go_wp2_with fail
    refine (Hpick.out w1).mono ?_
    rintro e w2 ⟨rfl, rfl⟩
    go_wp2_with fail
    refine (H8.out (by trivial)).mono ?_
    rintro e w3 ⟨⟨v3, rfl⟩, hdo⟩
    have Hdo := Lib.hid hdo
    clear hdo
    go_wp2_with fail
    refine Go.Great.bodyPost_end0 rfl rfl ?_
    exact ⟨rfl, Hdo.out⟩
  · go_enter Try.func16, Try.ntmps16
    go_upto_region 1 with (fail)
    (try rw [hw1])
    clear hw1
    go_wp2_with fail
    refine (Hpick.out w1).mono ?_
    rintro e w2 ⟨rfl, rfl⟩
    go_wp2_with fail
    refine (H9.out (by trivial)).mono ?_
    rintro e w3 ⟨⟨v3, rfl⟩, hdo⟩
    have Hdo := Lib.hid hdo
    clear hdo
    go_wp2_with fail
    refine Go.Great.bodyPost_end0 rfl rfl ?_
    exact ⟨rfl, Hdo.out⟩
  · go_enter Try.func16, Try.ntmps16
    go_upto_region 1 with (fail)
    (try rw [hw1])
    clear hw1
    go_wp2_with fail
    refine (Hpick.out w1).mono ?_
    rintro e w2 ⟨rfl, rfl⟩
    go_wp2_with fail
    refine (H10.out (by trivial)).mono ?_
    rintro e w3 ⟨⟨v3, rfl⟩, hdo⟩
    have Hdo := Lib.hid hdo
    clear hdo
    go_wp2_with fail
    refine Go.Great.bodyPost_end0 rfl rfl ?_
    exact ⟨rfl, Hdo.out⟩
  · go_enter Try.func16, Try.ntmps16
    go_upto_region 1 with (fail)
    (try rw [hw1])
    clear hw1
    go_wp2_with fail
    refine (Hpick.out w1).mono ?_
    rintro e w2 ⟨rfl, rfl⟩
    go_wp2_with fail
    refine Go.Great.bodyPost_end0 rfl rfl ?_
    exact ⟨rfl, Hstay.out⟩
  · go_enter Try.func16, Try.ntmps16
    go_upto_region 1 with (fail)
    (try rw [hw1])
    clear hw1
    go_wp2_with fail
    refine (Hpick.out w1).mono ?_
    rintro e w2 ⟨rfl, rfl⟩
    go_wp2_with fail
    refine Go.Great.bodyPost_end0 rfl rfl ?_
    exact ⟨rfl, Hstay.out⟩
end Go.Proofs.Ytcfhhekklakacaa
