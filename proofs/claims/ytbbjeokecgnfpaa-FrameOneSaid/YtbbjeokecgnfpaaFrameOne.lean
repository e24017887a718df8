/-
  The walk of mudlarklaw03.FrameOne: there is one way to write parts.
-/
import Derived.Test.YtbbjeokecgnfpaaFrameAwake
namespace Go.Proofs.Ytbbjeokecgnfpaa
open Go.RowKit WireM

set_option maxRecDepth 100000 in
set_option maxHeartbeats 2000000 in
theorem one_walk (w : World) (A : Option Addr) (n c : Nat) (b : List UInt8) (hR : BytesAt w w.heap.size A n b) (hnc : n ≤ c) (hc : c ≤ maxLen) :
    Calls Try.prog 3 #[.slice A n c] w fun e w' => e = .returned (.bool true) ∧ Below w.heap.size w w' := by
  have hlen := hR.len
  have HR := Lib.hid hR
  have Hlen := Lib.hid hlen
  have hc2 := hc
  unfold maxLen at hc2
  clear hlen hR
  go_enter Try.func3, Try.ntmps3
  go_wp2_with fail
  refine (awake03_any w).mono ?_
  rintro e w1 ⟨rfl, hg1⟩
  have hz1 := hg1.size
  by_cases hn : 10000 < n
  · have d1 : decide ((10000 : Int) < (n : Int)) = true := decide_eq_true (by omega)
    go_wp2
    go_ret
    exact ⟨rfl, hg1⟩
  · have d1 : decide ((10000 : Int) < (n : Int)) = false := decide_eq_false (by omega)
    go_wp2_with fail
    have hb1 := HR.out.below hg1
    cases hg : getB b with
    | none =>
      refine (Get_no w1 w.heap.size A n c b hg hb1 hz1 hnc hc (by omega)).mono ?_
      rintro e w2 ⟨rfl, hg2⟩
      clear hg hb1
      go_wp2_with fail
      refine (Put_any w2 0 none 0 0 [] (PartsAt.empty w2) (Nat.zero_le _) (by omega) (by rw [file_nil_len]; omega)).mono ?_
      rintro e w3 ⟨r3, rfl, ho3, hg3⟩
      have HG := Lib.hid (show Grow w w3 from (hg1.trans hg2).trans hg3)
      obtain ⟨A3, c3, rfl, h31, h32, h33⟩ := own_reads ho3
      clear ho3 h33 hg1 hg2 hg3
      go_wp2
      go_ret
      exact ⟨rfl, HG.out⟩
    | some ts =>
      have hbe := get_one hg
      refine (Get_yes w1 w.heap.size A n c b ts hg hb1 hz1 hnc hc (by omega)).mono ?_
      rintro e w2 ⟨v, vs, rfl, hP, hg2⟩
      have hfl : (fileB ts).length = n := by rw [← hbe]; exact Hlen.out
      have hbl := fileB_len ts
      have htl := body_ge ts
      obtain ⟨A2, c2, rfl, h21, h22, h23⟩ := hP.reads (fun t ht => by have := part_le ht; omega)
      have H23 := Lib.hid h23
      have Hbe := Lib.hid hbe
      have HG2 := Lib.hid (show Grow w w2 from hg1.trans hg2)
      have Hfl := Lib.hid hfl
      have htl2 : ts.length ≤ 4398046510976 := by omega
      clear hg hb1 h23 hbe hP hfl hbl htl hg1 hg2
      go_wp2_with fail
      refine (Put_any w2 w2.heap.size A2 _ c2 ts H23.out (Nat.le_refl _) htl2 (by rw [Hfl.out]; omega)).mono ?_
      rintro e w3 ⟨r3, rfl, ho3, hg3⟩
      rw [← Hbe.out, Hlen.out] at ho3
      obtain ⟨A3, c3, rfl, h31, h32, h33⟩ := own_reads ho3
      have HG3 := Lib.hid (show Grow w w3 from HG2.out.trans hg3)
      have H33 : Hid (BytesAt w3 w3.heap.size A3 n b) := h33
      clear ho3 h33 hg3
      go_wp2_with fail
      refine (SameBytes_any w3 w.heap.size w3.heap.size A A3 n c n c3 b b (HR.out.below HG3.out) H33.out (by simp only [maxLen]; omega) (by simp only [maxLen]; omega)).mono ?_
      rw [sameL_self]
      rintro e w4 ⟨rfl, q, rfl⟩
      go_wp2
      go_ret
      exact ⟨rfl, HG3.out.trans (Grow.drewN _ _)⟩
end Go.Proofs.Ytbbjeokecgnfpaa
