/-
  mudlarklaw02.WirePuts answers true: whatever is put, the bytes are what the document tells. The walk of the law's text.
-/
import Derived.Test.YtcjbeaohmgfgoaaDoes
import Derived.Test.YtcjbeaohmgfgoaaWireAwake
namespace Go.Proofs.Ytcjbeaohmgfgoaa
open Go.RowKit WireM

set_option maxRecDepth 100000 in
set_option maxHeartbeats 2000000 in
theorem puts_walk (w : World) (A : Option Addr) (n c : Nat) (ts : List ThingM) (hT : ThingsAt w w.heap.size A n ts) (hn : n ≤ 1954687338269) :
    Calls Try.prog 7 #[.slice A n c] w fun e w' => e = .returned (.bool true) ∧ Below w.heap.size w w' := by
  cases hgr : greatB ts 0 with
  | true =>
    have Hgr := Lib.hid hgr
    clear hgr
    go_enter Try.func7, Try.ntmps7
    go_wp2_with fail
    refine (great_any w _ A none n c 0 0 ts hT hn (by omega)).mono ?_
    rw [Hgr.out]
    rintro e w2 ⟨rfl, q, rfl⟩
    go_wp2_with (go_at_call 25; refine (awake02_any _).mono ?_; rintro e w3 ⟨rfl, hg3⟩)
    go_ret
    exact ⟨rfl, (Grow.drewN w q).trans hg3⟩
  | false =>
    have hgs : ts.length + 0 + thingsTot ts ≤ 4000 := by
      unfold greatB at hgr
      have := of_decide_eq_false hgr
      omega
    have hgs2 : ts.length + thingsTot ts ≤ 100000 := by omega
    have Hgr := Lib.hid hgr
    clear hgr hgs
    go_enter Try.func7, Try.ntmps7
    go_wp2_with fail
    refine (great_any w _ A none n c 0 0 ts hT hn (by omega)).mono ?_
    rw [Hgr.out]
    rintro e w2 ⟨rfl, q, hq⟩
    have hg2 : Grow w w2 := by rw [← hq]; exact Grow.drewN _ _
    have hz2 : w2.heap.size = w.heap.size := by rw [← hq]; rfl
    have hT2 : ThingsAt w2 w2.heap.size A n ts := by rw [hz2]; exact hT.below hg2
    have Hz2 := Lib.hid hz2
    clear hq hz2 hT
    go_wp2_with (first | (go_at_call 26; refine (does_any w2 A n c ts hT2 hgs2).mono ?_; rintro e w3 ⟨r3, L3, rfl, hown3, hg3⟩; obtain ⟨A3, c3, rfl, -, -, -⟩ := own_reads hown3; clear hown3) | (go_at_call 25; refine (awake02_any _).mono ?_; rintro e w4 ⟨rfl, hg4⟩))
    go_ret
    exact ⟨rfl, (hg2.trans hg3).trans hg4⟩
end Go.Proofs.Ytcjbeaohmgfgoaa
