/-
  The walk of crc's update: the sum goes on by the table over rows of bytes. Conditions: the table is the table.
-/
import Derived.Deep.LoopGhost
import Derived.Deep.QuietTactic
import Derived.BigQuiet
import Derived.WalkMore
import Derived.IntWalk
import Derived.Laws.Shifts
import Derived.Test.YtbbjeokecgnfpaaGreatBaseA
import Derived.Test.YtbbjeokecgnfpaaGreatCrcMade
namespace Go.Proofs.YtbbjeokecgnfpaaGreat
open Go.RowKit CrcM

theorem not_w32 (s : W32) : bits BinOp.xor IntKind.u32 IntKind.u32.max (s.toNat : Int) = ((~~~s).toNat : Int) := by
  have e := u32_xor_nat 4294967295 s.toNat (by omega) (w32_lt s)
  have hm : IntKind.u32.max = ((4294967295 : Nat) : Int) := by decide
  rw [hm, e]
  have h2 : ~~~s = 4294967295#32 ^^^ s := by
    apply BitVec.eq_of_getLsbD_eq
    intro i hi
    have h1 : (4294967295#32).getLsbD i = true := by
      rw [show (4294967295#32 : W32) = BitVec.allOnes 32 from rfl, BitVec.getLsbD_allOnes]; simpa using hi
    simp only [BitVec.getLsbD_not, BitVec.getLsbD_xor, h1, hi, decide_true, Bool.true_and, Bool.true_xor]
  rw [h2, BitVec.toNat_xor]
  rfl

/-- where the table is looked into, and what comes of it -/
theorem tab_index (S : W32) (x : UInt8) : ∃ i : Nat, i < 256 ∧ bits BinOp.xor IntKind.u8 ((S.toNat : Int) % 256) (x.toNat : Int) = (i : Int) ∧
    bits BinOp.xor IntKind.u32 ((tab i).toNat : Int) ((S.toNat : Int) / 256) = ((takeB S x).toNat : Int) := by
  have hlt : (S.toNat % 256) ^^^ x.toNat < 256 := Nat.xor_lt_two_pow (n := 8) (Nat.mod_lt _ (by omega)) x.toNat_lt
  refine ⟨(S.toNat % 256) ^^^ x.toNat, hlt, ?_, ?_⟩
  · have e := u8_xor_nat (S.toNat % 256) x.toNat (Nat.mod_lt _ (by omega)) x.toNat_lt
    rw [← e]
    rfl
  · have e2 : (S >>> 8).toNat = S.toNat / 256 := by rw [BitVec.toNat_ushiftRight, Nat.shiftRight_eq_div_pow]
    have e := u32_xor_nat (tab ((S.toNat % 256) ^^^ x.toNat)).toNat (S.toNat / 256) (w32_lt _) (by have := w32_lt S; omega)
    rw [takeB_tab, BitVec.toNat_xor, e2, ← e]
    rfl
theorem foldl_take_succ (a : W32) (l : List UInt8) (j : Nat) (x : UInt8) (h : l[j]? = some x) : (l.take (j + 1)).foldl takeB a = takeB ((l.take j).foldl takeB a) x := by
  rw [List.take_add_one, h]
  simp [List.foldl_append]

/-- what the number is when k rows are through -/
def accL (s : W32) (ls : List (List UInt8)) (k : Nat) : W32 := (ls.take k).flatten.foldl takeB (~~~s)
theorem accL_zero (s : W32) (ls : List (List UInt8)) : accL s ls 0 = ~~~s := by simp [accL]
theorem accL_succ (s : W32) (ls : List (List UInt8)) (k : Nat) (l : List UInt8) (h : ls[k]? = some l) : accL s ls (k + 1) = l.foldl takeB (accL s ls k) := by
  unfold accL
  rw [List.take_add_one, h]
  simp [List.foldl_append]
theorem accL_all (s : W32) (ls : List (List UInt8)) : ~~~(accL s ls ls.length) = upd s ls.flatten := by simp [accL, upd]

set_option maxRecDepth 100000 in
set_option maxHeartbeats 1000000 in
theorem update_any (w : World) (T B : Nat) (s : W32) (A : Option Addr) (n c : Nat) (ls : List (List UInt8)) (hT : Blk w T 108 tabV) (hR : RowsAt w B A n ls) (hn : n ≤ maxLen) :
    Calls Tryz.prog 51 #[.pointer (some ⟨T, 0, none⟩), .int .u32 (s.toNat : Int), .slice A n c] w fun e w' => e = .returned (.int .u32 ((upd s ls.flatten).toNat : Int)) ∧ ∃ q, w.drewN q = w' := by
  unfold maxLen at hn
  go_enter Tryz.func51, Tryz.ntmps51
  go_wp2; go_step3; go_wp2; go_step3; go_wp2
  rw [not_w32]
  go_loopw [1, 7, 8] (fun v1 v7 v8 wr => ∃ k q : Nat, k ≤ n ∧ v1 = .int .u32 ((accL s ls k).toNat : Int) ∧ v7 = .int .i64 (k : Int) ∧ v8 = .int .i64 0 ∧ w.drewN q = wr) (fun _ v7 _ _ => n - (intOf v7).toNat)
  case atStart => exact ⟨0, 0, by omega, by rw [accL_zero], rfl, rfl, rfl⟩
  case round =>
    obtain ⟨k, q, hk, rfl, rfl, rfl, rfl⟩ := hrel
    by_cases hkn : k < n
    · obtain ⟨b, off, rfl, hb, hc⟩ := hR.2 (by omega)
      obtain ⟨l, hl⟩ : ∃ l, ls[k]? = some l := ⟨_, List.getElem?_eq_getElem (by rw [hR.1]; exact hkn)⟩
      obtain ⟨A', m, c', hcell, hm1, hm2, hrow⟩ := hc k l hl
      unfold maxLen at hm2
      have Hl := Lib.hid hl
      clear hl hc
      go_wp2
      go_loopw [1, 7, 8] (fun v1 v7 v8 wr => ∃ j q : Nat, (j < m ∨ (j = 0 ∧ m = 0)) ∧ v1 = .int .u32 (((l.take j).foldl takeB (accL s ls k)).toNat : Int) ∧ v7 = .int .i64 (k : Int) ∧ v8 = .int .i64 (j : Int) ∧ w.drewN q = wr) (fun _ _ v8 _ => m - (intOf v8).toNat)
      case atStart => exact ⟨0, q, by omega, rfl, rfl, rfl, rfl⟩
      case round =>
        obtain ⟨j, q2, hj, rfl, rfl, rfl, rfl⟩ := hrel
        by_cases hjm : j < m
        · obtain ⟨b', off', rfl, hb', hc'⟩ := hrow.at_ (by omega)
          obtain ⟨x, hx⟩ : ∃ x, l[j]? = some x := ⟨_, List.getElem?_eq_getElem (by rw [hrow.len]; exact hjm)⟩
          have hcx : w.cell? ⟨b', off' + j, none⟩ = some (.int .u8 (x.toNat : Int)) := hc' j x hx
          have Hx := Lib.hid hx
          clear hc' hx
          go_wp2
          generalize hS : (l.take j).foldl takeB (accL s ls k) = S
          have HS := Lib.hid hS
          clear hS
          obtain ⟨i, hi, hidx, hstep⟩ := tab_index S x
          have hct : w.cell? ⟨T, i, none⟩ = some (.int .u32 ((tab i).toNat : Int)) := by rw [hT.cell]; exact tabV_get i hi
          go_quiet (fail)
          clear hidx hct hstep
          rcases (show j + 1 = m ∨ j + 1 < m from by omega) with hje | hje
          · have hb1 : (((j : Int) + 1) == (m : Int)) = true := by rw [beq_iff_eq]; omega
            have Hje := Lib.hid hje
            clear hje
            go_wp2
            go_roundw
            case rel =>
              refine ⟨k + 1, _, by omega, ?_, by go_num, rfl, rfl⟩
              rw [accL_succ s ls k l Hl.out, ← List.take_of_length_le (l := l) (i := j + 1) (by rw [hrow.len]; have := Hje.out; omega), foldl_take_succ _ _ _ _ Hx.out, HS.out]
            case measure => simp [intOf]; omega
          · have hb1 : (((j : Int) + 1) == (m : Int)) = false := by rw [beq_eq_false_iff_ne]; omega
            go_wp2
            go_roundw
            case rel => exact ⟨j + 1, _, .inl hje, by rw [foldl_take_succ _ _ _ _ Hx.out, HS.out], rfl, by go_num, rfl⟩
            case measure => simp [intOf]; omega
        · obtain ⟨rfl, rfl⟩ : j = 0 ∧ m = 0 := by omega
          go_wp2
          go_roundw
          case rel => exact ⟨k + 1, _, by omega, by rw [accL_succ s ls k l Hl.out, List.eq_nil_of_length_eq_zero hrow.len]; rfl, by go_num, rfl, rfl⟩
          case measure => simp [intOf]; omega
    · obtain rfl : k = n := by omega
      go_wp2
      try rw [Exit.noGoto_ret]
      go_ret
      rw [← accL_all, hR.1]
      exact ⟨ret_int (not_w32 _), q, rfl⟩
end Go.Proofs.YtbbjeokecgnfpaaGreat
