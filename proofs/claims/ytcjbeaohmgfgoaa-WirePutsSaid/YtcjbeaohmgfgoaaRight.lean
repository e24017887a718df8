/-
  The walks of mudlarklaw02's right (can a thing be put?), bytes and ints.
-/
import Derived.Test.YtcjbeaohmgfgoaaGreat
import Derived.Test.YtcjbeaohmgfgoaaSame
import Derived.Test.YtcjbeaohmgfgoaaRText
namespace Go.Proofs.Ytcjbeaohmgfgoaa
open Go.RowKit WireM

def rowRight : Int → List Int → Bool
  | _, [] => true
  | last, x :: r => decide (last < x) && decide (x ≤ 1099511627776) && rowRight x r
def rightB (t : ThingM) : Bool := rowRight (-1) t.row && (decide (0 ≤ t.n) && decide (t.n ≤ 1099511627776))
/-- the cells of a thing, as one value -/
abbrev thingV (t : ThingM) (A1 : Option Addr) (n1 c1 : Nat) (A2 : Option Addr) (n2 c2 : Nat) : Value := .agg #[.int .i64 t.kind, .int .i64 t.n, .int .i64 t.many, .slice A1 n1 c1, .slice A2 n2 c2]
theorem drop_at {α : Type} {l : List α} {k : Nat} {x : α} (h : l[k]? = some x) : l.drop k = x :: l.drop (k + 1) := by
  obtain ⟨h1, h2⟩ := List.getElem?_eq_some_iff.1 h
  rw [List.drop_eq_getElem_cons h1, h2]

set_option maxRecDepth 100000 in
set_option maxHeartbeats 2000000 in
theorem right_any (w : World) (B : Nat) (t : ThingM) (A1 : Option Addr) (n1 c1 : Nat) (A2 : Option Addr) (n2 c2 : Nat) (hR : IntsAt w B A2 n2 t.row) (hB : B ≤ w.heap.size) (hn : n2 ≤ 17592186043904) (r : Bool) (Hr : Hid (r = rightB t)) :
    Calls Try.prog 27 #[thingV t A1 n1 c1 A2 n2 c2] w fun e w' => e = .returned (.bool r) ∧ Grow w w' := by
  obtain ⟨W0, hW0⟩ : ∃ W0, w.alloc (.cells #[.int .i64 t.kind, .int .i64 t.n, .int .i64 t.many, .slice A1 n1 c1, .slice A2 n2 c2] 51) = W0 := ⟨_, rfl⟩
  have hG : Grow w W0 := by rw [← hW0]; exact Grow.alloc _ _
  have hR0 : IntsAt W0 B A2 n2 t.row := ReadsAt.keep hR fun p hp => hG.cell (Nat.lt_of_lt_of_le hp hB)
  have hb : Blk W0 w.heap.size 51 #[.int .i64 t.kind, .int .i64 t.n, .int .i64 t.many, .slice A1 n1 c1, .slice A2 n2 c2] := by rw [← hW0]; exact Blk.new _ _ _
  have hc1 := hb.cell 1
  have hc4 := hb.cell 4
  have hlen := Lib.hid hR0.len
  clear hR hb
  go_enter Try.func27, Try.ntmps27
  go_wp2_with fail
  (try rw [hW0])
  have HW0 := Lib.hid hW0
  clear hW0
  go_wp2
  go_loopw [3, 4] (fun v3 v4 wr => ∃ (k : Nat) (last : Int), k ≤ n2 ∧ v4 = .int .i64 (k : Int) ∧ v3 = .int .i64 last ∧ Hid (rowRight (-1) t.row = rowRight last (t.row.drop k)) ∧ W0 = wr) (fun _ v4 _ => n2 - (intOf v4).toNat)
  case atStart => exact ⟨0, -1, by omega, rfl, rfl, by simp [Hid], rfl⟩
  case round =>
    obtain ⟨k, last, hk, rfl, rfl, hs, rfl⟩ := hrel
    by_cases hlt : k < n2
    · obtain ⟨b, off, rfl, hb, hcl⟩ := hR0.at_ (by omega)
      obtain ⟨x, hx⟩ : ∃ x, t.row[k]? = some x := ⟨_, List.getElem?_eq_getElem (by rw [hlen.out]; exact hlt)⟩
      have hcx := hcl k x hx
      have hd := Lib.hid (show rowRight (-1) t.row = (decide (last < x) && decide (x ≤ 1099511627776) && rowRight x (t.row.drop (k + 1))) by rw [hs.out, drop_at hx, rowRight])
      clear hcl hx
      by_cases h1 : last < x
      · by_cases h2 : x ≤ 1099511627776
        · have hd2 : Hid (rowRight (-1) t.row = rowRight x (t.row.drop (k + 1))) := by
            show _ = _
            rw [hd.out, decide_eq_true h1, decide_eq_true h2]
            rfl
          go_wp2
          go_roundw
          case rel => exact ⟨k + 1, x, by omega, by go_num, rfl, hd2, trivial⟩
          case measure => simp [intOf]; omega
        · have hrf : Hid (r = false) := by
            show _ = _
            rw [Hr.out, rightB, hd.out, decide_eq_false h2]
            simp
          have h2' : 1099511627776 < x := by omega
          have d1 : decide (x ≤ last) = false := decide_eq_false (by omega)
          have d2 : decide (1099511627776 < x) = true := decide_eq_true h2'
          go_wp2
          go_ret
          exact ⟨ret_bool hrf.out.symm, hG⟩
      · have hrf : Hid (r = false) := by
          show _ = _
          rw [Hr.out, rightB, hd.out, decide_eq_false h1]
          simp
        have h1' : x ≤ last := by omega
        have d1 : decide (x ≤ last) = true := decide_eq_true h1'
        go_wp2
        go_ret
        exact ⟨ret_bool hrf.out.symm, hG⟩
    · obtain rfl : k = n2 := by omega
      have hrr : Hid (r = (decide (0 ≤ t.n) && decide (t.n ≤ 1099511627776))) := by
        show _ = _
        have : t.row.drop k = [] := by rw [List.drop_eq_nil_iff, hlen.out]; exact Nat.le_refl _
        rw [Hr.out, rightB, hs.out, this, rowRight, Bool.true_and]
      by_cases a1 : 0 ≤ t.n
      · by_cases a2 : t.n ≤ 1099511627776
        · have hrf : Hid (r = true) := by
            show _ = _
            rw [hrr.out, decide_eq_true a1, decide_eq_true a2]
            rfl
          go_wp2
          go_ret
          exact ⟨ret_bool hrf.out.symm, hG⟩
        · have hrf : Hid (r = false) := by
            show _ = _
            rw [hrr.out, decide_eq_false a2, Bool.and_false]
          have d2 : decide (t.n ≤ 1099511627776) = false := decide_eq_false a2
          go_wp2
          go_ret
          exact ⟨ret_bool hrf.out.symm, hG⟩
      · have hrf : Hid (r = false) := by
          show _ = _
          rw [hrr.out, decide_eq_false a1, Bool.false_and]
        have d1 : decide (0 ≤ t.n) = false := decide_eq_false a1
        go_wp2
        go_ret
        exact ⟨ret_bool hrf.out.symm, hG⟩

theorem bytes02_any (w : World) (B B2 : Nat) (A A2 : Option Addr) (n c n2 c2 : Nat) (l l2 : List UInt8) (hR : BytesAt w B A n l) (hR2 : BytesAt w B2 A2 n2 l2) (hc : n ≤ maxLen) (hc2 : n2 ≤ maxLen) :
    Calls Try.prog 33 #[.slice A n c, .slice A2 n2 c2] w fun e w' => e = .returned (.bool (sameL l l2)) ∧ ∃ q, w.drewN q = w' := by
  go_enter Try.func33, Try.ntmps33
  go_wp2_with fail
  refine (SameBytes_any w B B2 A A2 n c n2 c2 l l2 hR hR2 hc hc2).mono ?_
  rintro e w1 ⟨rfl, q, rfl⟩
  go_wp2
  go_ret
  exact ⟨rfl, q, rfl⟩
theorem ints02_any (w : World) (B B2 : Nat) (A A2 : Option Addr) (n c n2 c2 : Nat) (l l2 : List Int) (hR : IntsAt w B A n l) (hR2 : IntsAt w B2 A2 n2 l2) (hc : n ≤ maxLen) (hc2 : n2 ≤ maxLen) :
    Calls Try.prog 35 #[.slice A n c, .slice A2 n2 c2] w fun e w' => e = .returned (.bool (sameL l l2)) ∧ ∃ q, w.drewN q = w' := by
  go_enter Try.func35, Try.ntmps35
  go_wp2_with fail
  refine (SameInts_any w B B2 A A2 n c n2 c2 l l2 hR hR2 hc hc2).mono ?_
  rintro e w1 ⟨rfl, q, rfl⟩
  go_wp2
  go_ret
  exact ⟨rfl, q, rfl⟩
end Go.Proofs.Ytcjbeaohmgfgoaa
