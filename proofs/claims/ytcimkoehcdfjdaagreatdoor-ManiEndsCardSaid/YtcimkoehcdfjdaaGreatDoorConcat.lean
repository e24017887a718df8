/-
  The walk of slices.Concat at rows of bytes.
-/
import Derived.Test.YtcimkoehcdfjdaaGreatDoorBaseE
import Derived.Test.YtcimkoehcdfjdaaGreatDoorWBytes
namespace Go.Proofs.YtcimkoehcdfjdaaGreatDoor
open Go.RowKit WireM

theorem flat_len_succ {ls : List (List UInt8)} {k : Nat} {l : List UInt8} (h : ls[k]? = some l) : (ls.take (k + 1)).flatten = (ls.take k).flatten ++ l := by
 rw [List.take_add_one, h]
 simp
theorem flat_len_le (ls : List (List UInt8)) (k : Nat) : (ls.take k).flatten.length ≤ ls.flatten.length := by
 have h : ls.flatten = (ls.take k).flatten ++ (ls.drop k).flatten := by rw [← List.flatten_append, List.take_append_drop]
 rw [h, List.length_append]
 omega

set_option maxRecDepth 100000 in
set_option maxHeartbeats 2000000 in
theorem Concat_any (w : World) (B : Nat) (A : Option Addr) (n c : Nat) (ls : List (List UInt8)) (hR : RowsAt w B A n ls) (hB : B ≤ w.heap.size) (hn : n ≤ maxLen) (ht : ls.flatten.length ≤ 70368744177664) :
  Calls Tryz.prog 64 #[.slice A n c] w fun e w' => ∃ r, e = .returned r ∧ w'.ownsRow w.heap.size 5 1 r ls.flatten.length (ls.flatten.map b8) ∧ Grow w w' := by
 have bytesTy : AppTy Tryz.prog 28 5 (.int .u8 0) 1 1 := AppTy.mk' Tryz.underlying28 (by kernel_rfl) rfl (by decide)
 unfold maxLen at hn
 have Hlen := Lib.hid hR.1
 go_enter Tryz.func64, Tryz.ntmps64
 go_wp2
 go_loopw [3, 11] (fun v3 v11 wr => ∃ k S : Nat, k ≤ n ∧ v3 = .int .i64 (S : Int) ∧ v11 = .int .i64 (k : Int) ∧ Hid (S = (ls.take k).flatten.length) ∧ S ≤ 70368744177664 ∧ w = wr) (fun _ v11 _ => n - (intOf v11).toNat)
 case atStart => exact ⟨0, 0, by omega, rfl, rfl, by simp [Hid], by omega, rfl⟩
 case round =>
  obtain ⟨k, S, hk, rfl, rfl, hS, hSb, rfl⟩ := hrel
  by_cases hlt : k < n
  ·obtain ⟨l, hl⟩ : ∃ l, ls[k]? = some l := ⟨_, List.getElem?_eq_getElem (by rw [Hlen.out]; exact hlt)⟩
   obtain ⟨b, off, rfl, hb, hc⟩ := hR.2 (by omega)
   obtain ⟨A', m, c', hcell, hm1, hm2, hrow⟩ := hc k l hl
   have HS2 := Lib.hid (show S + m = (ls.take (k + 1)).flatten.length by rw [flat_len_succ hl, List.length_append, hrow.len, ← hS.out])
   have hle : S + m ≤ 70368744177664 := by
    have h1 := flat_len_le ls (k + 1)
    have h2 := HS2.out
    omega
   unfold maxLen at hm2
   clear hl hc hrow
   go_wp2
   go_roundw
   case rel => exact ⟨k + 1, S + m, by omega, by go_num, by go_num, HS2, hle, trivial⟩
   case measure => simp [intOf]; omega
  ·obtain rfl : k = n := by omega
   go_wp2_with (go_at_call 113; refine (GrowBytes_nil _ S hSb).mono ?_; rintro e w1 ⟨r, rfl, hown, hg⟩)
   have Hown := Lib.hid hown
   have Hg := Lib.hid hg
   clear hown hg
   go_loopw [6, 27] (fun v6 v27 wr => ∃ j : Nat, j ≤ k ∧ v27 = .int .i64 (j : Int) ∧ Hid (wr.ownsRow w.heap.size 5 1 v6 (ls.take j).flatten.length ((ls.take j).flatten.map b8)) ∧ Hid (Grow w wr)) (fun _ v27 _ => k - (intOf v27).toNat)
   case atStart => exact ⟨0, by omega, rfl, by simpa [Hid] using Hown.out, Hg⟩
   case round =>
    obtain ⟨j, hj, rfl, ho, hgr⟩ := hrel
    by_cases hjlt : j < k
    ·obtain ⟨l, hl⟩ : ∃ l, ls[j]? = some l := ⟨_, List.getElem?_eq_getElem (by rw [Hlen.out]; exact hjlt)⟩
     obtain ⟨b, off, rfl, hb, hc⟩ := (hR.below (Below.mono hgr.out hB)).2 (by omega)
     obtain ⟨A', m, c', hcell, hm1, hm2, hrow⟩ := hc j l hl
     have hfe := Lib.hid (flat_len_succ hl)
     have hle : (ls.take j).flatten.length + m ≤ 70368744177664 := by
      have h1 := flat_len_le ls (j + 1)
      have h2 := hfe.out
      rw [h2, List.length_append, hrow.len] at h1
      omega
     have Hrow := Lib.hid hrow
     have hzr := hgr.out.size
     clear hl hc hrow
     go_wp2_with (at_builtin; refine wpList_append_reads _ rfl (.tmp 31) (.tmp 32) rfl bytesTy rfl ho.out rfl Hrow.out (b8_one l) (by simp only [maxLen]; omega) (by omega) hzr ?_; intro v' w2 hown2 hgrow hat)
     have Ho2 := Lib.hid (show w2.ownsRow w.heap.size 5 1 v' (ls.take (j + 1)).flatten.length ((ls.take (j + 1)).flatten.map b8) by
      rw [hfe.out, List.length_append, List.map_append, Hrow.out.len]
      exact hown2)
     have Hg2 := Lib.hid (show Grow w w2 from Below.grown hgr.out hgrow hzr (fun q hq => (ho.out.lt q hq).1))
     clear hown2 hgrow hat
     go_roundw
     case rel => exact ⟨j + 1, by omega, by go_num, Ho2, Hg2⟩
     case measure => simp [intOf]; omega
    ·obtain rfl : j = k := by omega
     have Ho2 := Lib.hid (show wr.ownsRow w.heap.size 5 1 _ ls.flatten.length (ls.flatten.map b8) by
      have h1 := ho.out
      rw [List.take_of_length_le (by rw [Hlen.out]; exact Nat.le_refl _)] at h1
      exact h1)
     go_wp2
     go_ret
     exact ⟨_, rfl, Ho2.out, hgr.out⟩
end Go.Proofs.YtcimkoehcdfjdaaGreatDoor
