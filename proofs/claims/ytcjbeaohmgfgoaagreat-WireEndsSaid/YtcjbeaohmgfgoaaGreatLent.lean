/-
  The walks of mudlarkkit's LentBytes, KeptBytes, SameBytes: bytes that are lent with marks behind them; whether they are as they were; whether two rows are the same.
-/
import Derived.Test.YtcjbeaohmgfgoaaGreatAppend
import Derived.Test.YtcjbeaohmgfgoaaGreatMark
import Derived.Deep.QuietTactic
import Derived.BigQuiet
import Derived.IntWalk
import Derived.Test.YtcjbeaohmgfgoaaGreatSame
import Derived.Test.YtcjbeaohmgfgoaaGreatQuiet
namespace Go.Proofs.YtcjbeaohmgfgoaaGreat
open Go.RowKit

/-- the marks behind -/
def lentTail (i : Nat) : List UInt8 := (List.range i).map fun j : Nat => markB 1 (j : Int)
theorem lentTail_succ (i : Nat) : lentTail (i + 1) = lentTail i ++ [markB 1 (i : Int)] := by simp [lentTail, List.range_succ]
theorem lentTail_length (i : Nat) : (lentTail i).length = i := by simp [lentTail]
theorem lentTail_get (i j : Nat) (h : j < i) : (lentTail i)[j]? = some (markB 1 (j : Int)) := by simp [lentTail, h]

/-- block g holds the bytes l, and the marks behind them -/
def LentAt (w : World) (g : Nat) (l : List UInt8) : Prop := Blk w g 5 ((l ++ lentTail 12).map b8).toArray

/-- what the loop of the marks holds -/
structure LentInv (w : World) (g n : Nat) (l : List UInt8) (i : Nat) (wr : World) : Prop where
  own : wr.ownsRow w.heap.size 5 1 (.slice (some ⟨g, 0, none⟩) (n + i) (n + 12)) (n + i) ((l ++ lentTail i).map b8)
  below : Below w.heap.size w wr

set_option maxRecDepth 100000 in
set_option maxHeartbeats 1000000 in
theorem LentBytes_any (w : World) (B : Nat) (A : Option Addr) (n c : Nat) (l : List UInt8) (hR : BytesAt w B A n l) (hB : B ≤ w.heap.size) (hn : n ≤ 70368744177664) :
    Calls Tryz.prog 29 #[.slice A n c] w fun e w' => e = .returned (.slice (some ⟨w.heap.size, 0, none⟩) n (n + 12)) ∧ LentAt w' w.heap.size l ∧ Below w.heap.size w w' := by
  have bytesTy : AppTy Tryz.prog 22 5 (.int .u8 0) 1 1 := AppTy.mk' Tryz.underlying22 (by kernel_rfl) rfl (by decide)
  have hln := Lib.hid hR.len
  go_enter Tryz.func29, Tryz.ntmps29
  go_wp2_with (first | (at_make; refine wpList_make_fresh _ rfl _ _ rfl bytesTy (base := w.heap.size) (n + 12) rfl rfl (by omega) (by omega) (by unfold maxLen; omega) (Nat.le_refl _) ?_; intro w1 hown1 hg1; have hb1 : Below w.heap.size w w1 := (Below.refl _ _).grown hg1 (Nat.le_refl _) (fun k e => by cases e)) | (at_builtin; refine wpList_append_fits_reads _ rfl (.tmp 9) (.tmp 10) rfl bytesTy rfl hown1 rfl (hR.below (hb1.mono hB)) (b8_one l) (by omega) ?_; intro w2 hown2 hg2; have hb2 : Below w.heap.size w w2 := hb1.grown hg2 hb1.size (fun k e => by cases e; exact Nat.le_refl _)))
  have hI : LentInv w w.heap.size n l 0 w2 := ⟨by simpa [lentTail] using hown2, hb2⟩
  clear hown1 hg1 hb1 hown2 hg2 hb2
  go_loopw [3, 4] (fun v3 v4 wr => ∃ i : Nat, i ≤ 12 ∧ v4 = .int .i64 (i : Int) ∧ v3 = .slice (some ⟨w.heap.size, 0, none⟩) (n + i) (n + 12) ∧ LentInv w w.heap.size n l i wr) (fun _ v4 _ => 12 - (intOf v4).toNat)
  case atStart => exact ⟨0, by omega, rfl, by simp, hI⟩
  case round =>
    clear hI
    obtain ⟨i, hi, rfl, rfl, hI⟩ := hrel
    by_cases hlt : i < 12
    · go_wp2_with fail
      refine (markByte_any 1 (i : Int) _ (by omega) (by omega) (by omega) (by omega)).mono ?_
      rintro e w1 ⟨rfl, rfl⟩
      go_wp2_with (at_builtin; refine wpList_append_fits_reads _ rfl (.tmp 16) (.tmp 19) rfl bytesTy rfl (hI.own.alloc _) rfl (ReadsAt.made1 _ _ _) (by simp [Value.oneCell']) (by omega) ?_; intro w2 hown hg)
      go_roundw
      case rel =>
        refine ⟨i + 1, by omega, by go_num, by rw [Nat.add_assoc], ?_, ?_⟩
        · rw [lentTail_succ, ← List.append_assoc, List.map_append, ← Nat.add_assoc]
          exact hown
        · exact (hI.below.alloc hI.below.size _).grown hg (by have := hI.below.size; simp; omega) (fun k e => by cases e; exact Nat.le_refl _)
      case measure => simp [intOf]; omega
    · obtain rfl : i = 12 := by omega
      go_wp2
      go_ret
      exact ⟨rfl, own_full hI.own, hI.below⟩

theorem Blk.byte {w : World} {g t : Nat} {xs : List UInt8} (h : Blk w g t (xs.map b8).toArray) (i : Nat) (x : UInt8) (hx : xs[i]? = some x) : w.cell? ⟨g, i, none⟩ = some (.int .u8 (x.toNat : Int)) := by
  rw [h.cell]
  simp [hx, b8]
theorem lent_get1 (l : List UInt8) (i : Nat) (x : UInt8) (h : l[i]? = some x) : (l ++ lentTail 12)[i]? = some x := by
  rw [List.getElem?_append_left (List.getElem?_eq_some_iff.1 h).1]; exact h
theorem lent_get2 (l : List UInt8) (i n : Nat) (hn : l.length = n) (h1 : n ≤ i) (h2 : i < n + 12) : (l ++ lentTail 12)[i]? = some (markB 1 ((i : Int) - (n : Int))) := by
  rw [List.getElem?_append_right (by omega), lentTail_get _ _ (by omega), hn]
  congr 2
  omega

set_option maxRecDepth 100000 in
set_option maxHeartbeats 1000000 in
/-- what was lent is as it was -/
theorem KeptBytes_yes (w : World) (B g : Nat) (A : Option Addr) (n c : Nat) (l : List UInt8) (hL : LentAt w g l) (hR : BytesAt w B A n l) (hn : n ≤ 70368744177664) :
    Calls Tryz.prog 35 #[.slice (some ⟨g, 0, none⟩) n (n + 12), .slice A n c] w fun e w' => e = .returned (.bool true) ∧ ∃ q, w.drewN q = w' := by
  have hnb : ((n : Int) == (n : Int)) = true := by simp
  have hln := Lib.hid hR.len
  go_enter Tryz.func35, Tryz.ntmps35
  go_wp2
  go_loopw [6] (fun v6 wr => ∃ k q : Nat, k ≤ n + 12 ∧ v6 = .int .i64 (k : Int) ∧ w.drewN q = wr) (fun v6 _ => n + 12 - (intOf v6).toNat)
  case atStart => exact ⟨0, 0, by omega, rfl, rfl⟩
  case round =>
    obtain ⟨k, q, hk, rfl, rfl⟩ := hrel
    by_cases hlt : k < n + 12
    · by_cases hkn : k < n
      · obtain ⟨b, off, rfl, hb, hcl⟩ := hR.at_ (by omega)
        obtain ⟨x, hx⟩ : ∃ x, l[k]? = some x := ⟨_, List.getElem?_eq_getElem (by rw [hln.out]; exact hkn)⟩
        have hcx := hcl k x hx
        have hcg := hL.byte k x (lent_get1 l k x hx)
        have hne : ((x.toNat : Int) == (x.toNat : Int)) = true := by simp
        have hg1 : decide (k < n) = true := by simpa using hkn
        have hg2 : decide (n ≤ k) = false := by simpa using hkn
        clear hcl hx
        go_wp2_with fail
        go_quiet (fail)
        go_wp2
        go_roundw
        case rel => exact ⟨k + 1, _, by omega, by go_num, rfl⟩
        case measure => simp [intOf]; omega
      · have hcg := hL.byte k _ (lent_get2 l k n hln.out (by omega) hlt)
        have hcm := fun W => markByte_any 1 ((k : Int) - (n : Int)) W (by omega) (by omega) (by omega) (by omega)
        have Hcm := Lib.hid hcm
        clear hcm
        have e1 : IntKind.i64.wrap ((k : Int) - (n : Int)) = (k : Int) - (n : Int) := IntWalk.i64_in _ (by omega)
        generalize markB 1 ((k : Int) - (n : Int)) = x at *
        have hne : ((x.toNat : Int) == (x.toNat : Int)) = true := by simp
        have hg1 : decide (k < n) = false := by simpa using hkn
        have hg2 : decide (n ≤ k) = true := by simpa using hkn
        go_wp2_with fail
        go_quiet ((go_at_call 69; exact quiet_add_left (Hcm.out _)))
        go_wp2
        go_roundw
        case rel => exact ⟨k + 1, _, by omega, by go_num, rfl⟩
        case measure => simp [intOf]; omega
    · obtain rfl : k = n + 12 := by omega
      go_wp2
      go_ret
      exact ⟨rfl, _, rfl⟩
theorem LentAt.below {w w' : World} {g B : Nat} {l : List UInt8} (h : LentAt w g l) (hb : Below B w w') (hg : g < B) : LentAt w' g l := Blk.below h hb hg
theorem LentAt.bytes {w : World} {g B : Nat} {l : List UInt8} (h : LentAt w g l) (hg : g < B) : BytesAt w B (some ⟨g, 0, none⟩) l.length l :=
  BytesAt.of_cells h.cells hg rfl (fun j x hx => by
    have e := lent_get1 l j x hx
    rw [List.getElem?_toArray, List.getElem?_map, e]
    rfl)
end Go.Proofs.YtcjbeaohmgfgoaaGreat
