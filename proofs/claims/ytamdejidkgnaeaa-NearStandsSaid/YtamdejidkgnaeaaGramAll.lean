/-
  The walks of gram's all: the closure that goes through the places and the grams of bytes.
-/
import Derived.LoopIn
import Derived.Test.YtamdejidkgnaeaaGramMap
import Derived.Test.YtamdejidkgnaeaaBaseD
import Derived.Test.YtamdejidkgnaeaaRange
import Derived.Shelf.Abstract
import Derived.OwnWalkIn
import Derived.TacticsInMore
import Derived.IntWalk
import Derived.Laws.Cover3
namespace Go.Proofs.Ytamdejidkgnaeaa
open Go.RowKit Go.Shelf GramM
set_option linter.unusedVariables false

theorem gall_any (A : Option Addr) (n c : Nat) (w : World) : Calls Try.prog 26 #[.slice A n c] w fun e w' => e = .returned (.func (.func 40) #[] #[.pointer (some ⟨w.heap.size, 0, none⟩)]) ∧ w.alloc (.cells #[.slice A n c] 26) = w' := by
  go_enter Try.func26, Try.ntmps26
  go_wp2
  go_ret
  exact ⟨rfl, rfl⟩
set_option maxRecDepth 100000 in
set_option maxHeartbeats 4000000 in
theorem gall1_any (m : Nat) (hm : 1 ≤ m) (lp Bx B : Nat) (A : Option Addr) (n c : Nat) (b : List UInt8) (hnc : n ≤ c) (hcm : c ≤ maxLen) (J : Nat → World → Prop)
    (hY : ∀ (k : Nat) (g : Gr) (W : World), (grams b)[k]? = some g → J k W → Boxed W Bx 26 (.slice A n c) → BytesAt W B A n b →
      YieldAt Fence.wide (m - 1) Try.prog lp #[.int .i64 (k : Int), gv g] W fun e W' => e = .returned (.bool true) ∧ J (k + 1) W' ∧ Boxed W' Bx 26 (.slice A n c) ∧ BytesAt W' B A n b)
    (W : World) (hb : BytesAt W B A n b) (hBx : Boxed W Bx 26 (.slice A n c)) (h0 : J 0 W) :
    CallsIn Fence.wide m Try.prog 40 #[.func (.yield lp) #[] #[], .pointer (some ⟨Bx, 0, none⟩)] W fun e W' => (∃ v, e = .returned v) ∧ J (n - 2) W' := by
  have bytesTy : AppTy Try.prog 26 5 (.int .u8 0) 1 1 := AppTy.mk' Try.underlying26 (by kernel_rfl) rfl (by decide)
  refine callsIn_of_wp Try.func40 rfl trivial ?_ rfl
  simp only [Try.ntmps40, List.size_toArray, List.length_cons, List.length_nil, Nat.reduceAdd, Nat.reduceSub, Array.replicate_succ, Array.replicate_zero, List.push_toArray, List.append_toArray, List.nil_append, List.cons_append]
  have HY := Lib.hid hY
  have H0 := Lib.hid h0
  have Hb := Lib.hid hb
  have hc0 := hBx.cell
  have Hbx := Lib.hid hBx
  have Hlen := Lib.hid hb.len
  unfold maxLen at hcm
  have hmx : (if (n : Int) - 2 < 0 then (0 : Int) else (n : Int) - 2) = ((n - 2 : Nat) : Int) := by split <;> omega
  obtain ⟨q, hq⟩ : ∃ q, q = n - 2 := ⟨_, rfl⟩
  rw [← hq] at hmx ⊢
  have Hq := Lib.hid hq
  have Hmx := Lib.hid hmx
  have hq2 : q ≤ n := by omega
  clear hY h0 hb hBx hq hmx
  gi_wp2_with fail
  case inl =>
    gi_loopw [8] (fun v8 wr => v8 = .int .i64 0 ∧ Hid (J 0 wr)) (fun v8 wr => 0)
    case atStart => exact ⟨rfl, H0⟩
    case round =>
      obtain ⟨rfl, hj⟩ := hrel
      have Hfin := Lib.hid (show J q wr by
        have hq := Hq.out
        have h0 : q = 0 := by omega
        rw [h0]
        exact hj.out)
      clear hj hc0
      gi_wp2_with fail
      go_end0
      exact ⟨⟨_, rfl⟩, Hfin.out⟩
  case inr =>
    have hn2 : (n : Int) - 2 = (q : Int) := by
      have hq := Hq.out
      omega
    rw [hn2]
    have hq3 : q + 2 = n := by omega
    have Hn2 := Lib.hid hq3
    have hq4 : q + 2 ≤ n := by omega
    clear hn2 hq3 h
    gi_loopw [8] (fun v8 wr => ∃ (k : Nat), k ≤ q ∧ v8 = .int .i64 (k : Int) ∧ Hid (J k wr) ∧ Hid (Boxed wr Bx 26 (.slice A n c)) ∧ Hid (BytesAt wr B A n b)) (fun v8 wr => q - (intOf v8).toNat)
    case atStart => exact ⟨0, by omega, rfl, H0, Hbx, Hb⟩
    case round =>
      obtain ⟨k, hk, rfl, hj, hbx, hb⟩ := hrel
      have hcell := hbx.out.cell
      by_cases hkq : k < q
      · have hq := Hq.out
        have hgl : k < (grams b).length := by rw [grams_len, Hlen.out]; omega
        obtain ⟨⟨x, y, z⟩, hg⟩ : ∃ g, (grams b)[k]? = some g := ⟨_, List.getElem?_eq_getElem hgl⟩
        obtain ⟨fn, tmps, assign, body, hy, hR⟩ := HY.out k (x, y, z) wr hg hj.out hbx.out hb.out
        have Hg := Lib.hid hg
        have hk3 : k + 3 ≤ n := by omega
        obtain ⟨b0, off, rfl, hlt, hcs⟩ := hb.out.at_ (by omega)
        have hra : ∀ cp : Nat, (Instr.arrayAt 69 (.slice (some ⟨b0, off + k, none⟩) 3 cp)).run Try.prog wr = .ok (.pointer (some ⟨b0, off + k, none⟩)) wr := fun cp => run_arrayAt (P := Try.prog) (w := wr) (n := 3) (len := 3) (cap := cp) (a := some ⟨b0, off + k, none⟩) (h := Try.underlying69) (hn := Nat.le_refl 3)
        obtain ⟨g1, g2, g3⟩ := grams_of hg
        have hc1 : wr.cell? ⟨b0, off + k, none⟩ = some (.int .u8 (x.toNat : Int)) := hcs k x g1
        have hc2 : wr.cell? ⟨b0, off + k + 1, none⟩ = some (.int .u8 (y.toNat : Int)) := by
          rw [Nat.add_assoc]
          exact hcs _ y g2
        have hc3 : wr.cell? ⟨b0, off + k + 2, none⟩ = some (.int .u8 (z.toNat : Int)) := by
          rw [Nat.add_assoc]
          exact hcs _ z g3
        clear hg hgl hq hc0 hcs g1 g2 g3
        unfold gv b8 at hy
        gi_wp2_with fail
        refine hR.mono ?_
        rintro e w3 ⟨rfl, hj3, hbx3, hb3⟩
        have Hj3 := Lib.hid hj3
        have Hbx3 := Lib.hid hbx3
        have Hb3 := Lib.hid hb3
        clear hR hy hj3 hbx3 hb3 hcell hc1 hc2 hc3 hra
        gi_wp2_with fail
        go_roundw
        case rel => exact ⟨k + 1, by omega, rfl, Hj3, Hbx3, Hb3⟩
        case measure =>
          simp only [intOf]
          omega
      · have hkq2 : k = q := by omega
        subst hkq2
        have Hfin := Lib.hid hj.out
        clear hj
        gi_wp2_with fail
        go_end0
        exact ⟨⟨_, rfl⟩, Hfin.out⟩
end Go.Proofs.Ytamdejidkgnaeaa
