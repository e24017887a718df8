/-
  The walk of mudlarklaw04's awake: the chapter's example.
-/
import Derived.Test.YtcfhhekklakacaaVfsQuiet
import Derived.Test.YtcfhhekklakacaaVfsRead
import Derived.Lib.SlBytesConst
namespace Go.Proofs.Ytcfhhekklakacaa
open Go.RowKit
set_option linter.unusedVariables false
theorem awake_torn {i : Nat} (hi : i < 2) {q : List UInt8 × Nat} (h1 : TornOk ([120, 121, 122], 2) q) (h2 : Torn1 ([120, 121, 122], 2) [(i : Int), (i : Int)] q) : q.1 = if i = 0 then [120, 121] else [120, 121, 0] := by
  obtain ⟨-, -, -, a4, -⟩ := h1
  obtain ⟨-, -, b⟩ := h2
  obtain ⟨b1, b2⟩ := b (by decide)
  have a4 : q.1.take 2 = [120, 121] := a4
  rcases (show i = 0 ∨ i = 1 by omega) with rfl | rfl
  · have e : q.1.length = 2 := by rw [b1]; decide
    rw [List.take_of_length_le (by omega)] at a4
    exact a4
  · have e : q.1.length = 3 := by rw [b1]; decide
    have e2 := b2 rfl (by decide)
    match hq : q.1, e with
    | [x, y, z], _ =>
      rw [hq] at a4 e2
      simp only [List.take_succ_cons, List.take_zero, List.cons.injEq, and_true] at a4
      obtain ⟨rfl, rfl⟩ := a4
      simp at e2
      rw [e2]
      rfl
/-- the example's disk ahead of its crash -/
def awakeS (id : Nat) : St :=
  let S1 := newS.create [97] id
  let S2 := S1.setF id ((S1.con id).1 ++ [120, 121], (S1.con id).2)
  let S3 := S2.sync id
  S3.setF id ((S3.con id).1 ++ [122], (S3.con id).2)
theorem awakeS_con (id : Nat) : (awakeS id).con id = ([120, 121, 122], 2) := by
  simp [awakeS, St.setF, St.sync, St.clean, St.create, St.wait, St.more, St.file]
theorem awakeS_cur (id : Nat) : (awakeS id).cur = putF newS.cur [97] (some id) := rfl
theorem awakeS_all (id : Nat) : ({ awakeS id with down := true } : St).all = [putF newS.cur [97] (some id)] := rfl
theorem one_cur {id id' : Nat} {l : List UInt8} (h : putF newS.cur [97] (some id) l = some id') : id' = id := by
  by_cases e : l = [97]
  · rw [e, putF_self] at h
    injection h with h
    exact h.symm
  · rw [putF_ne _ _ e] at h
    cases h
theorem a_right : rightB ⟨#[97]⟩ = true := by decide +kernel
theorem Hbel_of {w wr w10 w11 : World} (h : Hid (Below w.heap.size w wr)) (h1 : Below wr.heap.size wr w10) (h2 : Grow w10 w11) : Below w.heap.size w w11 :=
  (h.out.trans (Below.mono h1 h.out.size)).trans (Below.mono h2 (Nat.le_trans h.out.size h1.size))
theorem reads_new {W : World} {k ty n : Nat} {fr : Nat × Nat} {cs : List Value} (h : W.heap[k]? = some (.cells cs.toArray ty fr)) (hn : cs.length = n) : ReadsAt W (k + 1) 1 (some ⟨k, 0, none⟩) n cs := by
  refine ⟨by rw [hn]; simp, fun hp => ⟨k, 0, rfl, Nat.lt_succ_self _, fun j u hu => ?_⟩⟩
  rw [Nat.zero_add]
  simp only [World.cell?, h]
  simpa using hu
set_option maxRecDepth 100000 in
set_option maxHeartbeats 4000000 in
theorem awake04_any (w : World) : Calls Try.prog 5 #[] w fun e w' => e = .returned (.bool true) ∧ Below w.heap.size w w' := by
  have kc := fun (w : World) (C : Array Value) (n c : Nat) => Lib.run_convert_bytes_const (P := Try.prog) w 22 5 C n c Try.underlying22 Try.underlying5
  go_enter Try.func5, Try.ntmps5
  go_wp2
  go_loopw [1, 2, 3, 4, 5] (fun v1 v2 v3 v4 v5 wr => ∃ i : Nat, i ≤ 2 ∧ v1 = .int .i64 (i : Int) ∧ Hid (Below w.heap.size w wr)) (fun v1 _ _ _ _ _ => 2 - (intOf v1).toNat)
  case atStart => exact ⟨0, by omega, rfl, Lib.hid (Below.refl _ _)⟩
  case round =>
    obtain ⟨i, hi, rfl, hbel⟩ := hrel
    by_cases hlt : i < 2
    · have Hlt := Lib.hid hlt
      go_wp2_with fail
      refine (vNew_any wr 100 (by omega) (by omega)).mono ?_
      rintro e w1 ⟨rfl, hv, hg⟩
      have Hv := Lib.hid hv
      have Hb1 := Lib.hid (show Below wr.heap.size wr w1 from hg)
      clear hv hg
      go_wp2_with fail
      refine (q_create Hv.out Hb1.out.size newS_quiet ⟨#[97]⟩ (by decide) (by omega) a_right rfl).mono ?_
      rintro e w2 ⟨rfl, hb, id, -, hv, hq⟩
      have Hv2 := Lib.hid hv
      have Hq2 := Lib.hid hq
      have Hb2 := Lib.hid (Hb1.out.trans hb)
      clear hb hv hq
      have hx2 : (w2.alloc (.cells #[.int .u8 120, .int .u8 121] 5 (2, 3))).heap[w2.heap.size]? = some (.cells #[.int .u8 120, .int .u8 121] 5 (2, 3)) := World.alloc_heap_new _ _
      have hg2 : Grow w2 (w2.alloc (.cells #[.int .u8 120, .int .u8 121] 5 (2, 3))) := Grow.alloc _ _
      obtain ⟨w3, hw3⟩ : ∃ w3, w2.alloc (.cells #[.int .u8 120, .int .u8 121] 5 (2, 3)) = w3 := ⟨_, rfl⟩
      rw [hw3] at hx2 hg2
      have hgz : ¬ (w2.heap.size = wr.heap.size + 1) := fun e => by
        obtain ⟨-, mb, uv, fs, t, c, rv, q⟩ := Hv2.out
        have := q.disk.lt
        omega
      have H3 := Lib.hid (q_append (B := w2.heap.size + 1) (Hv2.out.grow hg2) (Nat.le_trans Hb2.out.size hg2.size) Hq2.out ⟨#[97]⟩ (by decide) (some ⟨w2.heap.size, 0, none⟩) 2 2 [120, 121] rfl (fun W hk => reads_new (cs := [.int .u8 120, .int .u8 121]) (hk.obj hx2 hgz) rfl) (by omega) (by omega) (id := id) (show putF newS.cur [97] (some id) [97] = some id from putF_self _ _ _))
      have Hb3 := Lib.hid (Hb2.out.trans (Below.mono hg2 Hb2.out.size))
      clear hx2 hg2 hgz
      go_wp2_with fail
      refine H3.out.mono ?_
      rintro e w4 ⟨rfl, hb, hv, hq⟩
      have Hv4 := Lib.hid hv
      have Hq4 := Lib.hid hq
      have Hb4 := Lib.hid (Hb3.out.trans hb)
      clear hb hv hq H3 hw3
      go_wp2_with fail
      refine (q_sync Hv4.out Hb4.out.size Hq4.out ⟨#[97]⟩ (by decide) (id := id) (show putF newS.cur [97] (some id) [97] = some id from putF_self _ _ _)).mono ?_
      rintro e w5 ⟨rfl, hb, hv, hq⟩
      have Hv5 := Lib.hid hv
      have Hq5 := Lib.hid hq
      have Hb5 := Lib.hid (Hb4.out.trans hb)
      clear hb hv hq
      have hx5 : (w5.alloc (.cells #[.int .u8 122] 5 (1, 2))).heap[w5.heap.size]? = some (.cells #[.int .u8 122] 5 (1, 2)) := World.alloc_heap_new _ _
      have hg5 : Grow w5 (w5.alloc (.cells #[.int .u8 122] 5 (1, 2))) := Grow.alloc _ _
      obtain ⟨w6, hw6⟩ : ∃ w6, w5.alloc (.cells #[.int .u8 122] 5 (1, 2)) = w6 := ⟨_, rfl⟩
      rw [hw6] at hx5 hg5
      have hgz : ¬ (w5.heap.size = wr.heap.size + 1) := fun e => by
        obtain ⟨-, mb, uv, fs, t, c, rv, q⟩ := Hv5.out
        have := q.disk.lt
        omega
      have H6 := Lib.hid (q_append (B := w5.heap.size + 1) (Hv5.out.grow hg5) (Nat.le_trans Hb5.out.size hg5.size) Hq5.out ⟨#[97]⟩ (by decide) (some ⟨w5.heap.size, 0, none⟩) 1 1 [122] rfl (fun W hk => reads_new (cs := [.int .u8 122]) (hk.obj hx5 hgz) rfl) (by omega) (by omega) (id := id) (show putF newS.cur [97] (some id) [97] = some id from putF_self _ _ _))
      have Hb6 := Lib.hid (Hb5.out.trans (Below.mono hg5 Hb5.out.size))
      clear hx5 hg5 hgz
      go_wp2_with fail
      refine H6.out.mono ?_
      rintro e w7 ⟨rfl, hb, hv, hq⟩
      have Hv7 := Lib.hid (show VAt w7 (wr.heap.size + 1) wr.heap.size 100 (awakeS id) from hv)
      have Hb7 := Lib.hid (Hb6.out.trans hb)
      clear hb hv hq H6 hw6
      go_wp2_with fail
      refine (vCrash_any w7 _ _ _ _ Hv7.out Hb7.out.size).mono ?_
      rw [show (if (awakeS id).down = true then (12 : Int) else 0) = 0 from rfl]
      rintro e w8 ⟨rfl, hv, hb⟩
      have Hv8 := Lib.hid hv
      have Hb8 := Lib.hid (Hb7.out.trans hb)
      clear hb hv
      have hx9 : Blk (w8.alloc (.cells #[.int .i64 (i : Int), .int .i64 (i : Int)] 3)) w8.heap.size 3 #[.int .i64 (i : Int), .int .i64 (i : Int)] := Blk.new _ _ _
      have hg9 : Grow w8 (w8.alloc (.cells #[.int .i64 (i : Int), .int .i64 (i : Int)] 3)) := Grow.alloc _ _
      obtain ⟨w9, hw9⟩ : ∃ w9, w8.alloc (.cells #[.int .i64 (i : Int), .int .i64 (i : Int)] 3) = w9 := ⟨_, rfl⟩
      rw [hw9] at hx9 hg9
      have H9 := Lib.hid (vWake_any w9 _ _ _ _ (Hv8.out.grow hg9) (Nat.le_trans Hb8.out.size hg9.size) 0 (by omega) (some ⟨w8.heap.size, 0, none⟩) 2 2 (w8.heap.size + 1) [(i : Int), (i : Int)] (by omega) (by unfold maxLen; omega) (fun W hk => reads_new (cs := [.int .i64 (i : Int), .int .i64 (i : Int)]) (hk.2 _ _ hx9) rfl) (fun x hx => by
        have : x = (i : Int) := by simpa using hx
        omega) (Nat.zero_le _) (by show 1 ≤ 900000000; omega))
      have Hb9 := Lib.hid (Hb8.out.trans (Below.mono hg9 Hb8.out.size))
      clear hx9 hg9
      go_wp2_with fail
      refine H9.out.mono ?_
      rintro e w10 ⟨x, rfl, hik, ⟨hd, -, -⟩ | ⟨-, rfl, M, con, n, hM, -, hcon, hone, hv⟩⟩
      · cases hd
      rw [awakeS_all, List.mem_singleton] at hM
      subst hM
      have hin : id ∈ ({ awakeS id with down := true } : St).ids := by simp [awakeS, St.setF, St.sync, St.clean, St.create, St.wait, St.more, St.file]
      have hqq := awake_torn (q := con id) Hlt.out (by
        have h := hcon id hin
        rw [show ({ awakeS id with down := true } : St).con id = _ from awakeS_con id] at h
        exact h) (by
        have h := hone id (fun l id' h => one_cur h) ⟨[97], putF_self _ _ _⟩
        rw [show ({ awakeS id with down := true } : St).con id = _ from awakeS_con id] at h
        exact h)
      have Hqq := Lib.hid hqq
      have Hv10 := Lib.hid hv
      have Hb10 := Lib.hid (Hb9.out.trans hik.1)
      clear hqq hin hv hik hcon hone H9 hw9
      go_wp2_with fail
      refine (vRead_any w10 _ _ _ _ Hv10.out ⟨#[97]⟩ (by decide) 9 (by omega)).mono ?_
      rintro e w11 ⟨hg, ⟨hd, -⟩ | ⟨-, hc, -⟩ | ⟨-, id', v, hc, rfl, hrow⟩⟩
      · cases hd
      · rw [show (({ awakeS id with down := true } : St).woken (putF newS.cur [97] (some id)) con n).cur = putF newS.cur [97] (some id) from rfl, show (ByteArray.mk #[97]).data.toList = [97] from rfl, putF_self] at hc
        cases hc
      have hid := one_cur (l := [97]) hc
      rw [hid, show (({ awakeS id with down := true } : St).woken (putF newS.cur [97] (some id)) con n).con id = con id from rfl, Hqq.out] at hrow
      have Hb11 := Lib.hid (Hbel_of hbel Hb10.out hg)
      clear hc hid hg
      rcases (show i = 0 ∨ i = 1 by have := Hlt.out; omega) with rfl | rfl
      · rw [show List.take 9 (if 0 = 0 then [120, 121] else [120, 121, 0]) = [(120 : UInt8), 121] from rfl] at hrow
        obtain ⟨g5, cap5, rfl, -, -, -, -⟩ := own_slice hrow (by decide)
        have hc0 : w11.cell? ⟨g5, 0, none⟩ = some (.int .u8 120) := own_cell hrow (j := 0) rfl
        clear hrow
        go_wp2_with fail
        go_roundw
        case rel => exact ⟨1, by omega, rfl, Hb11⟩
        case measure => simp [intOf]
      · rw [show List.take 9 (if 1 = 0 then [120, 121] else [120, 121, 0]) = [(120 : UInt8), 121, 0] from rfl] at hrow
        obtain ⟨g5, cap5, rfl, -, -, -, -⟩ := own_slice hrow (by decide)
        have hc0 : w11.cell? ⟨g5, 0, none⟩ = some (.int .u8 120) := own_cell hrow (j := 0) rfl
        have hc2 : w11.cell? ⟨g5, 2, none⟩ = some (.int .u8 0) := own_cell hrow (j := 2) rfl
        clear hrow
        go_wp2_with fail
        go_roundw
        case rel => exact ⟨2, by omega, rfl, Hb11⟩
        case measure => simp [intOf]
    · obtain rfl : i = 2 := by omega
      go_wp2_with fail
      go_ret
      exact ⟨rfl, hbel.out⟩
end Go.Proofs.Ytcfhhekklakacaa
