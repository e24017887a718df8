/-
  The walk of a look's all: the closure that goes through the places where a run may stand.
-/
import Derived.LoopIn
import Derived.Shelf.Abstract
import Derived.OwnWalkIn
import Derived.TacticsInMore
import Derived.IntWalk
import Derived.Laws.Cover3
import Derived.WalkMore
import Derived.BigQuiet
import Derived.RangeFuncBox
import Derived.RangeFuncCalls
import Derived.Test.YtamdejidkgnaeaaRange
import Derived.Test.YtamdejidkgnaeaaNearFind
namespace Go.Proofs.Ytamdejidkgnaeaa
open Go.RowKit Go.Shelf NearM
set_option linter.unusedVariables false
/-- the slice .slice A n c reads as rows of places, each of which rises -/
def OthersAt (w : World) (B : Nat) (A : Option Addr) (n : Nat) (os : List (List Pl)) : Prop :=
  SliceBy w B 1 A n (fun cs L => ∃ A' n' c', cs = [.slice A' n' c'] ∧ n' ≤ 1000000000 ∧ PlsAt w B A' n' L ∧ Up L) os
section
variable {w w' : World} {B n : Nat} {A : Option Addr} {os : List (List Pl)}
theorem OthersAt.below (h : OthersAt w B A n os) (hb : Below B w w') : OthersAt w' B A n os := SliceBy.keep h (fun _ hp => hb.cell hp) fun cs L ⟨A, n, c, h1, h2, h3, h4⟩ => ⟨A, n, c, h1, h2, h3.below hb, h4⟩
theorem OthersAt.at_ (h : OthersAt w B A n os) {k : Nat} {L : List Pl} (hk : os[k]? = some L) : ∃ b off A' n' c', A = some ⟨b, off, none⟩ ∧ b < B ∧ w.cell? ⟨b, off + k, none⟩ = some (.slice A' n' c') ∧ n' ≤ 1000000000 ∧ PlsAt w B A' n' L ∧ Up L := by
  obtain ⟨b, off, e, hb, hc⟩ := h.2 (by have h1 := (List.getElem?_eq_some_iff.1 hk).1; have h2 := h.1; omega)
  obtain ⟨cs, -, ⟨A', n', c', rfl, h1, h2, h3⟩, hcs⟩ := hc k L hk
  refine ⟨b, off, A', n', c', e, hb, ?_, h1, h2, h3⟩
  have := hcs 0 _ rfl
  rwa [Nat.mul_one] at this
end
/-- a look lies in a box -/
structure LookAt (W : World) (B Bx : Nat) (A : Option Addr) (n c : Nat) (l : List Pl) (Ao : Option Addr) (no co : Nat) (os : List (List Pl)) : Prop where
  box : Blk W Bx 50 #[.slice A n c, .slice Ao no co]
  pls : PlsAt W B A n l
  oth : OthersAt W B Ao no os
  size : B ≤ W.heap.size
theorem LookAt.grow {W W' : World} {B Bx : Nat} {A : Option Addr} {n c : Nat} {l : List Pl} {Ao : Option Addr} {no co : Nat} {os : List (List Pl)} (h : LookAt W B Bx A n c l Ao no co os) (hg : Grow W W') : LookAt W' B Bx A n c l Ao no co os :=
  ⟨h.box.below hg h.box.lt, h.pls.below (Below.mono hg h.size), h.oth.below (Below.mono hg h.size), Nat.le_trans h.size hg.size⟩
def mayB (os : List (List Pl)) (x : Pl) : Bool := os.zipIdx.all fun y => decide ((x.1, x.2 + (y.2 + 1)) ∈ y.1)
theorem mayB_yes {os : List (List Pl)} {x : Pl} (h : ∀ j L, os[j]? = some L → (x.1, x.2 + (j + 1)) ∈ L) : mayB os x = true := by
  unfold mayB
  rw [List.all_eq_true]
  intro y hy
  obtain ⟨L, j⟩ := y
  rw [List.mk_mem_zipIdx_iff_getElem?] at hy
  exact decide_eq_true (h j L hy)
theorem mayB_no {os : List (List Pl)} {x : Pl} {j : Nat} {L : List Pl} (hj : os[j]? = some L) (h : (x.1, x.2 + (j + 1)) ∉ L) : mayB os x = false := by
  cases e : mayB os x with
  | false => rfl
  | true =>
    unfold mayB at e
    rw [List.all_eq_true] at e
    exact absurd (of_decide_eq_true (e (L, j) (List.mk_mem_zipIdx_iff_getElem?.2 hj))) h
theorem nall_any (p q : Value) (w : World) : Calls Try.prog 18 #[.agg #[p, q]] w fun e w' => e = .returned (.func (.func 32) #[] #[.pointer (some ⟨w.heap.size, 0, none⟩)]) ∧ w.alloc (.cells #[p, q] 50) = w' := by
  go_enter Try.func18, Try.ntmps18
  go_wp2
  go_ret
  exact ⟨rfl, rfl⟩
set_option maxRecDepth 100000 in
set_option maxHeartbeats 4000000 in
theorem nall1_any (m : Nat) (hm : 1 ≤ m) (lp Bx B : Nat) (A : Option Addr) (n c : Nat) (l : List Pl) (Ao : Option Addr) (no co : Nat) (os : List (List Pl)) (hn : n ≤ 1000000000) (hno : no ≤ 1000000) (hl : ∀ x ∈ l, x.2 ≤ 100000000) (J : Nat → World → Prop)
    (hG : ∀ k W W', J k W → Grow W W' → J k W')
    (hY : ∀ (k : Nat) (x : Pl) (W : World), (l.filter (mayB os))[k]? = some x → J k W → LookAt W B Bx A n c l Ao no co os →
      YieldAt Fence.wide (m - 1) Try.prog lp #[.agg #[.int .i64 (x.1 : Int), .int .i64 (x.2 : Int)]] W fun e W' => e = .returned (.bool true) ∧ J (k + 1) W' ∧ LookAt W' B Bx A n c l Ao no co os)
    (W : World) (hL : LookAt W B Bx A n c l Ao no co os) (h0 : J 0 W) :
    CallsIn Fence.wide m Try.prog 32 #[.func (.yield lp) #[] #[], .pointer (some ⟨Bx, 0, none⟩)] W fun e W' => (∃ v, e = .returned v) ∧ J (l.filter (mayB os)).length W' := by
  refine callsIn_of_wp Try.func32 rfl trivial ?_ rfl
  simp only [Try.ntmps32, List.size_toArray, List.length_cons, List.length_nil, Nat.reduceAdd, Nat.reduceSub, Array.replicate_succ, Array.replicate_zero, List.push_toArray, List.append_toArray, List.nil_append, List.cons_append]
  have HG := Lib.hid hG
  have HY := Lib.hid hY
  have H0 := Lib.hid h0
  have HL := Lib.hid hL
  have Hll := Lib.hid hl
  have hc0 := hL.box.cell 0
  have Hlen := Lib.hid hL.pls.1
  have Hlo := Lib.hid hL.oth.1
  clear hG hY h0 hL hl
  refine wpIn_wide.2 (wp_scope_straight ((wpIn_wide (n := m)).1 ?_))
  gi_wp2_with fail
  refine wpIn_label ?_
  gi_wp2_with fail
  gi_loopw [4, 5, 6, 10, 17] (fun v4 v5 v6 v10 v17 wr => ∃ i : Nat, i ≤ n ∧ v10 = .int .i64 (i : Int) ∧ Hid (J ((l.take i).filter (mayB os)).length wr) ∧ Hid (LookAt wr B Bx A n c l Ao no co os)) (fun _ _ _ v10 _ _ => n - (intOf v10).toNat)
  case atStart => exact ⟨0, by omega, rfl, H0, HL⟩
  case round =>
    obtain ⟨i, hi, rfl, hj, hla⟩ := hrel
    obtain ⟨wo, rfl⟩ : ∃ wo, wo = wr := ⟨_, rfl⟩
    by_cases hlt : i < n
    · have d1 : decide ((i : Int) < (n : Int)) = true := decide_eq_true (by omega)
      obtain ⟨x, hx⟩ : ∃ x, l[i]? = some x := ⟨_, List.getElem?_eq_getElem (by rw [Hlen.out]; exact hlt)⟩
      obtain ⟨b, off, rfl, hbB, hcx0, hcx1⟩ := hla.out.pls.at_ hx
      obtain ⟨w2, hw2⟩ : ∃ w2, wo.alloc (.cells #[.int .i64 (x.1 : Int), .int .i64 (x.2 : Int)] 33) = w2 := ⟨_, rfl⟩
      have hg2 : Grow wo w2 := by rw [← hw2]; exact Grow.alloc _ _
      have hbx : Blk w2 wo.heap.size 33 #[.int .i64 (x.1 : Int), .int .i64 (x.2 : Int)] := by rw [← hw2]; exact Blk.new _ _ _
      have hc1 := (hla.out.grow hg2).box.cell 1
      have Hx := Lib.hid hx
      have Hg2 := Lib.hid hg2
      have Hbx := Lib.hid hbx
      have Hla2 := Lib.hid (hla.out.grow hg2)
      have Hj2 := Lib.hid (HG.out _ _ _ hj.out hg2)
      have Hx2 := Lib.hid (Hll.out x (List.mem_of_getElem? hx))
      have Hrg := Lib.hid (place_range hcx0 hcx1)
      clear hx hg2 hbx
      gi_wp2_with fail
      have hcb0 := Hbx.out.cell 0
      have hcb1 := Hbx.out.cell 1
      clear hcx0 hcx1 hw2
      gi_loopw [5, 6, 17] (fun v5 v6 v17 wr => ∃ k : Nat, k ≤ no ∧ v17 = .int .i64 (k : Int) ∧ Hid (∀ j L, j < k → os[j]? = some L → (x.1, x.2 + (j + 1)) ∈ L) ∧ Hid (Grow w2 wr)) (fun _ _ v17 _ => no - (intOf v17).toNat)
      case atStart => exact ⟨0, by omega, rfl, Lib.hid (fun j L hj => by omega), Lib.hid (Grow.refl _)⟩
      case round =>
        obtain ⟨k, hk, rfl, hall, hgz⟩ := hrel
        clear hc1 hcb0 hcb1
        by_cases hkl : k < no
        · have d2 : decide ((k : Int) < (no : Int)) = true := decide_eq_true (by omega)
          obtain ⟨L, hL⟩ : ∃ L, os[k]? = some L := ⟨_, List.getElem?_eq_getElem (by rw [Hlo.out]; exact hkl)⟩
          have hlz := Hla2.out.grow hgz.out
          obtain ⟨b2, off2, A', n', c', rfl, hb2, hc2, hn', hpl, hup⟩ := hlz.oth.at_ hL
          have hbz := Hbx.out.below hgz.out Hbx.out.lt
          have hcb0 := hbz.cell 0
          have hcb1 := hbz.cell 1
          have hadd : (k : Int) + 1 = ((k + 1 : Nat) : Int) := by omega
          have hwr : IntKind.i64.wrap ((k + 1 : Nat) : Int) = ((k + 1 : Nat) : Int) := IntWalk.i64_in _ (by omega)
          have Hhas := Lib.hid (nhas_any wr B A' n' c' L x (k + 1) hpl hlz.size hup (by omega) (by have := Hx2.out; omega))
          obtain ⟨k1, hk1⟩ : ∃ k1 : Int, k1 = ((k + 1 : Nat) : Int) := ⟨_, rfl⟩
          rw [← hk1] at hadd hwr Hhas
          have HL2 := Lib.hid hL
          clear hL hlz hpl hup hbz hk1
          gi_wp2_with fail
          refine ⟨trivial, CallsIn.mono (callsIn_wide.2 Hhas.out) ?_⟩
          rintro e w3 ⟨rfl, hg3⟩
          have Hg3 := Lib.hid (hgz.out.trans hg3)
          clear hg3 hcb0 hcb1 hc2 Hhas
          by_cases hin : (x.1, x.2 + (k + 1)) ∈ L
          · have d3 : decide ((x.1, x.2 + (k + 1)) ∈ L) = true := decide_eq_true hin
            have Hin := Lib.hid hin
            rw [d3]
            clear hin d3
            gi_wp2_with fail
            go_roundw
            case rel => exact ⟨k + 1, by omega, by go_num, Lib.hid (fun j L' hj hL' => by
              by_cases e : j = k
              · subst e
                have h1 := HL2.out
                rw [h1] at hL'
                injection hL' with hL'
                rw [← hL']
                exact Hin.out
              · exact hall.out j L' (by omega) hL'), Hg3⟩
            case measure => simp only [intOf]; omega
          · have d3 : decide ((x.1, x.2 + (k + 1)) ∈ L) = false := decide_eq_false hin
            have Hno := Lib.hid (mayB_no HL2.out hin)
            rw [d3]
            clear hin d3
            gi_wp2_with fail
            go_roundw
            case rel => exact ⟨i + 1, by omega, by go_num, Lib.hid (by
              have h := HG.out _ _ _ Hj2.out Hg3.out
              rwa [List.take_add_one, Hx.out, List.filter_append, show (Option.toList (some x)).filter (mayB os) = [] from List.filter_cons_of_neg (by rw [Hno.out]; simp), List.append_nil]), Lib.hid (Hla2.out.grow Hg3.out)⟩
            case measure => simp only [intOf]; omega
        · obtain rfl : k = no := by omega
          have d2 : decide ((k : Int) < (k : Int)) = false := decide_eq_false (by omega)
          have Hyes := Lib.hid (mayB_yes fun j L hj => hall.out j L (by have := (List.getElem?_eq_some_iff.1 hj).1; have := Hlo.out; omega) hj)
          have hbz := Hbx.out.below hgz.out Hbx.out.lt
          have hcb0 := hbz.cell 0
          have hcb1 := hbz.cell 1
          have hat : (l.filter (mayB os))[((l.take i).filter (mayB os)).length]? = some x := by
            have h := filter_at (pre := l.take i) (suf := l.drop (i + 1)) (f := mayB os) (x := x) Hyes.out
            have e : l.take i ++ x :: l.drop (i + 1) = l := by
              have h1 := (List.getElem?_eq_some_iff.1 Hx.out)
              obtain ⟨h2, h3⟩ := h1
              rw [← h3, ← List.drop_eq_getElem_cons h2, List.take_append_drop]
            rwa [e] at h
          obtain ⟨fn, tmps, assign, body, hy, hR⟩ := HY.out _ x wr hat (HG.out _ _ _ Hj2.out hgz.out) (Hla2.out.grow hgz.out)
          clear hat hbz hall
          gi_wp2_with fail
          refine hR.mono ?_
          rintro e w3 ⟨rfl, hj3, hl3⟩
          have Hj3 := Lib.hid hj3
          have Hl3 := Lib.hid hl3
          clear hR hy hj3 hl3 hcb0 hcb1
          gi_wp2_with fail
          go_roundw
          case rel => exact ⟨i + 1, by omega, by go_num, Lib.hid (by
            have h := Hj3.out
            rwa [List.take_add_one, Hx.out, List.filter_append, show (Option.toList (some x)).filter (mayB os) = [x] from List.filter_cons_of_pos Hyes.out, List.length_append]), Hl3⟩
          case measure => simp only [intOf]; omega
    · obtain rfl : i = n := by omega
      have d1 : decide ((i : Int) < (i : Int)) = false := decide_eq_false (by omega)
      have Hfin := Lib.hid (show J (l.filter (mayB os)).length wo by
        have h := hj.out
        rwa [List.take_of_length_le (by rw [Hlen.out]; exact Nat.le_refl _)] at h)
      clear hj
      gi_wp2_with fail
      (try unfold Exit.noGoto)
      go_end0
      exact ⟨⟨_, rfl⟩, Hfin.out⟩
end Go.Proofs.Ytamdejidkgnaeaa
