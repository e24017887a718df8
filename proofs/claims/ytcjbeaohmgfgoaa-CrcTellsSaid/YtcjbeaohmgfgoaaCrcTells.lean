/-
  The walk of mudlarklaw01.CrcTells: sums of any parts, gone on from any sum, and any number with a bit more, are the document's. Conditions: lengths within the form's reach.
-/
import Derived.Test.YtcjbeaohmgfgoaaLentRows
import Derived.Test.YtcjbeaohmgfgoaaRef01
import Derived.Test.YtcjbeaohmgfgoaaCrcAwake
namespace Go.Proofs.Ytcjbeaohmgfgoaa
open Go.RowKit CrcM

/-- how many bytes the first i rows have -/
def tot (ls : List (List UInt8)) (i : Nat) : Nat := ((ls.take i).flatten).length
theorem tot_succ (ls : List (List UInt8)) (i : Nat) (l : List UInt8) (h : ls[i]? = some l) : tot ls (i + 1) = tot ls i + l.length := by
  rw [tot, flat_take_succ ls i l h, List.length_append]; rfl
theorem tot_all (ls : List (List UInt8)) (i : Nat) (h : ls.length ≤ i) : tot ls i = ls.flatten.length := by
  rw [tot, List.take_of_length_le h]

/-- sums gone on -/
def upds (s : W32) (ls : List (List UInt8)) (k : Nat) : W32 := (ls.take k).foldl upd s
theorem upds_succ (s : W32) (ls : List (List UInt8)) (k : Nat) (l : List UInt8) (h : ls[k]? = some l) : upds s ls (k + 1) = upd (upds s ls k) l := by
  unfold upds
  rw [List.take_add_one, h]
  simp [List.foldl_append]

theorem Update_at (w : World) (B : Nat) (s s' : W32) (A : Option Addr) (n c : Nat) (l : List UInt8) (h : s' = upd s l) (hR : BytesAt w B A n l) (hB : B ≤ w.heap.size) (hnc : n ≤ c) (hc : c ≤ maxLen) :
    Calls Try.prog 15 #[.int .u32 (s.toNat : Int), .slice A n c] w fun e w' => e = .returned (.int .u32 (s'.toNat : Int)) ∧ Below w.heap.size w w' := by
  rw [h]
  exact Update_any w B s A n c l hR hB hnc hc
theorem rUpdate_at (w : World) (B : Nat) (s s' : W32) (A : Option Addr) (n c : Nat) (l : List UInt8) (h : s' = upd s l) (hR : BytesAt w B A n l) (hnc : n ≤ c) (hc : c ≤ maxLen) :
    Calls Try.prog 16 #[.int .u32 (s.toNat : Int), .slice A n c] w fun e w' => e = .returned (.int .u32 (s'.toNat : Int)) ∧ w = w' := by
  rw [h]
  exact rUpdate_any w B s A n c l hR hnc hc

set_option maxRecDepth 100000 in
set_option maxHeartbeats 2000000 in
theorem tells_walk (w : World) (A : Option Addr) (n c : Nat) (ls : List (List UInt8)) (s : W32) (bit : Bool) (hR : RowsAt w w.heap.size A n ls) (hnc : n ≤ c) (hn : n ≤ 140737488351232) (hl : ∀ l ∈ ls, l.length ≤ 140737488351232) :
    Calls Try.prog 4 #[.slice A n c, .int .u32 (s.toNat : Int), .bool bit] w fun e w' => e = .returned (.bool true) ∧ Below w.heap.size w w' := by
  have Hlen := Lib.hid hR.1
  have Hl := Lib.hid hl
  clear hl
  go_enter Try.func4, Try.ntmps4
  go_wp2
  go_loop [7, 8] (fun v7 v8 => ∃ i m : Nat, i ≤ n ∧ v8 = .int .i64 (i : Int) ∧ v7 = .int .i64 (m : Int) ∧ Hid (m = n + tot ls i) ∧ m ≤ 281474976710656) (fun _ v8 => n - (intOf v8).toNat)
  case atStart => exact ⟨0, n, by omega, rfl, rfl, by simp [Hid, tot], by omega⟩
  case round =>
    obtain ⟨i, m, hi, rfl, rfl, hm, hmb⟩ := hrel
    by_cases hmm : m ≤ 20000
    · by_cases hlt : i < n
      · obtain ⟨b, off, rfl, hb, hcl⟩ := hR.2 (by omega)
        obtain ⟨l, hli⟩ : ∃ l, ls[i]? = some l := ⟨_, List.getElem?_eq_getElem (by rw [Hlen.out]; exact hlt)⟩
        obtain ⟨A', k, c', hcell, hm1, hm2, hrow⟩ := hcl i l hli
        have hk := Hl.out l (List.mem_of_getElem? hli)
        rw [hrow.len] at hk
        have Hli := Lib.hid hli
        have Hk := Lib.hid hrow.len
        clear hli hcl
        go_wp2
        go_round
        case rel => exact ⟨i + 1, m + k, by omega, by go_num, by go_num, by show _ = _; rw [tot_succ ls i l Hli.out, Hk.out, hm.out]; omega, by omega⟩
        case measure => simp [intOf]; omega
      · obtain rfl : i = n := by omega
        have htot : ls.flatten.length ≤ 20000 := by
          have := hm.out
          rw [tot_all ls i (by rw [Hlen.out]; omega)] at this
          omega
        have hall : ∀ l ∈ ls, l.length ≤ 1000000 := fun l hl => Nat.le_trans (len_le_flat htot hl) (by omega)
        have hin : i ≤ 20000 := by have := hm.out; omega
        have Hall := Lib.hid hall
        have Htot := Lib.hid htot
        clear hall htot
        go_wp2_with fail
        refine (LentRows_any w w.heap.size A i c ls hR (Nat.le_refl _) (by have := hm.out; omega) Hall.out).mono ?_
        rintro e w1 ⟨A', c', rfl, hic, hcm, hrd, hb1⟩
        go_wp2
        go_loopw [10, 11, 12] (fun v10 v11 v12 wr => ∃ (k : Nat) (S : W32), k ≤ i ∧ v12 = .int .i64 (k : Int) ∧ v10 = .int .u32 (S.toNat : Int) ∧ v11 = .int .u32 (S.toNat : Int) ∧ Hid (S = upds s ls k) ∧ Below w1.heap.size w1 wr) (fun _ _ v12 _ => i - (intOf v12).toNat)
        case atStart => exact ⟨0, s, by omega, rfl, rfl, rfl, rfl, Below.refl _ _⟩
        case round =>
          obtain ⟨k, S, hk, rfl, rfl, rfl, hS, hbr⟩ := hrel
          have hRr := (hR.below hb1).below (hbr.mono hb1.size)
          have hrr := hrd.below hbr
          have hws := hbr.size
          have hw1 := hb1.size
          by_cases hki : k < i
          · obtain ⟨b, off, rfl, hb, hcl⟩ := hrr.2 (by omega)
            obtain ⟨b2, off2, rfl, hb2, hcl2⟩ := hRr.2 (by omega)
            obtain ⟨l, hli⟩ : ∃ l, ls[k]? = some l := ⟨_, List.getElem?_eq_getElem (by rw [Hlen.out]; exact hki)⟩
            obtain ⟨g, hg, hcell, hlent⟩ := hcl k l hli
            obtain ⟨A2', m2, c2', hcell2, hm1, hm2, hrow⟩ := hcl2 k l hli
            have hml := Hall.out l (List.mem_of_getElem? hli)
            rw [hrow.len] at hml hcell
            have hbg := hlent.bytes hg
            rw [hrow.len] at hbg
            obtain ⟨S', hS'⟩ : ∃ S', S' = upd S l := ⟨_, rfl⟩
            have hSn : S' = upds s ls (k + 1) := by rw [hS', hS.out, upds_succ s ls k l hli]
            have HS' := Lib.hid hS'
            have HSn := Lib.hid hSn
            clear hcl hcl2 hli hS' hSn
            go_wp2_with fail
            refine (Update_at _ _ S S' _ _ _ l HS'.out hbg (by omega) (by omega) (by unfold maxLen; omega)).mono ?_
            rintro e w2 ⟨rfl, hb2'⟩
            have hcell2' := (hb2'.cell (p := ⟨b2, off2 + k, none⟩) (show b2 < _ by omega)).trans hcell2
            go_wp2_with fail
            refine (rUpdate_at _ _ S S' _ _ _ l HS'.out (hrow.below (hb2'.mono (by omega))) hm1 hm2).mono ?_
            rintro e w3 ⟨rfl, rfl⟩
            go_wp2
            go_roundw
            case rel => exact ⟨k + 1, S', by omega, by go_num, rfl, rfl, HSn, hbr.trans (hb2'.mono hws)⟩
            case measure => simp [intOf]; omega
          · obtain rfl : k = i := by omega
            go_wp2_with fail
            refine (Sum_any _ _ _ _ _ ls (hrr.rows Hall.out) hws (by unfold maxLen; omega)).mono ?_
            rintro e w2 ⟨rfl, hb2⟩
            go_wp2_with fail
            refine (rSum_any _ _ _ _ _ ls (hRr.below (hb2.mono (by omega))) (by have := hb2.size; omega) (by unfold maxLen; omega) (by have := Htot.out; omega)).mono ?_
            rintro e w3 ⟨rfl, hb3⟩
            have hb4 := (hb2.trans (hb3.mono hb2.size))
            clear hb2 hb3
            go_wp2_with fail
            refine (Bit_any s bit _).mono ?_
            rintro e w4 ⟨rfl, rfl⟩
            go_wp2_with fail
            refine (rBit_any s bit _).mono ?_
            rintro e w4 ⟨rfl, rfl⟩
            go_wp2_with fail
            refine (KeptRows_yes _ _ _ _ _ _ _ _ ls (hrr.below (hb4.mono hws)) (hRr.below (hb4.mono (by omega))) (by omega) Hall.out).mono ?_
            rintro e w4 ⟨rfl, q, rfl⟩
            go_wp2_with fail
            refine (awake01_any _).mono ?_
            rintro e w5 ⟨rfl, hb5⟩
            go_wp2
            go_ret
            have hz := hb4.size
            exact ⟨rfl, ((hb1.trans (hbr.mono hw1)).trans (hb4.mono (by omega))).trans ((below_drewN (Below.refl _ _) q).trans (hb5.mono (by show _ ≤ w3.heap.size; omega)))⟩
    · go_wp2_with (go_at_call 11; refine (awake01_any _).mono ?_; rintro e w1 ⟨rfl, hb1⟩)
      all_goals (go_ret; exact ⟨rfl, hb1⟩)
end Go.Proofs.Ytcjbeaohmgfgoaa
