/-
  The walks of the document's answer for cursors: rests as rows.
-/
import Derived.Test.YthjnggclemhgkaaCur
namespace Go.Proofs.Ythjnggclemhgkaa
open Go.RowKit CurM
set_option linter.unusedVariables false

/-- a row that a call has made -/
def RefNew (w : World) (L : List Int) (e : Ending) (w' : World) : Prop := ∃ r, e = .returned r ∧ w'.ownsRow w.heap.size 3 1 r L.length (L.map i64v) ∧ Grow w w'
theorem IntsAt.get {w : World} {B n : Nat} {A : Option Addr} {l : List Int} (h : IntsAt w B A n l) {k : Nat} {x : Int} (hx : l[k]? = some x) : ∃ b off, A = some ⟨b, off, none⟩ ∧ b < B ∧ w.cell? ⟨b, off + k, none⟩ = some (.int .i64 x) := by
  have h1 := (List.getElem?_eq_some_iff.1 hx).1
  obtain ⟨b, off, e, h2, h3⟩ := h.at_ (by have := h.len; omega)
  exact ⟨b, off, e, h2, h3 k x hx⟩
set_option maxRecDepth 100000 in
set_option maxHeartbeats 1000000 in
theorem refHas_any (w : World) (B : Nat) (A : Option Addr) (n c : Nat) (l : List Int) (x : Int) (hR : IntsAt w B A n l) (hn : n ≤ 17592186044416) :
    Calls Try.prog 32 #[.slice A n c, .int .i64 x] w fun e w' => e = .returned (.bool (decide (x ∈ l))) ∧ w = w' := by
  have Hlen := Lib.hid hR.len
  have HR := Lib.hid hR
  clear hR
  go_enter Try.func32, Try.ntmps32
  go_wp2
  go_loop [5] (fun v5 => ∃ k : Nat, k ≤ n ∧ v5 = .int .i64 (k : Int) ∧ Hid (∀ j, j < k → l[j]? ≠ some x)) (fun v5 => n - (intOf v5).toNat)
  case atStart => exact ⟨0, by omega, rfl, fun j h => by omega⟩
  case round =>
    obtain ⟨k, hk, rfl, hno⟩ := hrel
    by_cases hlt : k < n
    · have d1 : decide ((k : Int) < (n : Int)) = true := decide_eq_true (by omega)
      obtain ⟨y, hy⟩ : ∃ y, l[k]? = some y := ⟨_, List.getElem?_eq_getElem (by rw [Hlen.out]; exact hlt)⟩
      obtain ⟨b, off, rfl, -, hc⟩ := HR.out.get hy
      have Hy := Lib.hid hy
      clear hy
      by_cases hyx : y = x
      · subst hyx
        have d2 : (y == y) = true := by simp
        have Hfin := Lib.hid (show decide (y ∈ l) = true from decide_eq_true (List.mem_of_getElem? Hy.out))
        go_wp2
        go_ret
        exact ⟨ret_bool Hfin.out.symm, rfl⟩
      · have d2 : (y == x) = false := by rw [beq_eq_false_iff_ne]; exact hyx
        have Hno2 := Lib.hid (show ∀ j, j < k + 1 → l[j]? ≠ some x from fun j hj => by
          by_cases e : j = k
          · subst e
            rw [Hy.out]
            intro h
            injection h with h
            exact hyx h
          · exact hno.out j (by omega))
        go_wp2
        go_round
        case rel => exact ⟨k + 1, by omega, by go_num, Hno2⟩
        case measure => simp [intOf]; omega
    · have d1 : decide ((k : Int) < (n : Int)) = false := decide_eq_false (by omega)
      have Hfin := Lib.hid (show decide (x ∈ l) = false by
        refine decide_eq_false fun hm => ?_
        obtain ⟨j, hj⟩ := List.getElem?_of_mem hm
        exact hno.out j (by have := (List.getElem?_eq_some_iff.1 hj).1; have := Hlen.out; omega) hj)
      go_wp2
      go_ret
      exact ⟨ret_bool Hfin.out.symm, rfl⟩
/-- a rest that is sought -/
def RefCut (A : Option Addr) (n c : Nat) (x : Int) (l : List Int) (w : World) (e : Ending) (w' : World) : Prop := ∃ k, k ≤ n ∧ e = .returned (.slice (cutA A c k 1) (n - k) (c - k)) ∧ seek x l = l.drop k ∧ w = w'
set_option maxRecDepth 100000 in
set_option maxHeartbeats 1000000 in
theorem refSeek_any (w : World) (B : Nat) (A : Option Addr) (n c : Nat) (l : List Int) (x : Int) (hR : IntsAt w B A n l) (hn : n ≤ 17592186044416) :
    Calls Try.prog 27 #[.slice A n c, .int .i64 x] w (RefCut A n c x l w) := by
  have intsTy : AppTy Try.prog 22 3 (.int .i64 0) 1 8 := AppTy.mk' Try.underlying22 (by kernel_rfl) rfl (by decide)
  have Hlen := Lib.hid hR.len
  have HR := Lib.hid hR
  clear hR
  go_enter Try.func27, Try.ntmps27
  go_wp2
  go_loop [5] (fun v5 => ∃ k : Nat, k ≤ n ∧ v5 = .int .i64 (k : Int) ∧ Hid (∀ j y, j < k → l[j]? = some y → y < x)) (fun v5 => n - (intOf v5).toNat)
  case atStart => exact ⟨0, by omega, rfl, fun j y h => by omega⟩
  case round =>
    obtain ⟨k, hk, rfl, hno⟩ := hrel
    by_cases hlt : k < n
    · have d1 : decide ((k : Int) < (n : Int)) = true := decide_eq_true (by omega)
      obtain ⟨y, hy⟩ : ∃ y, l[k]? = some y := ⟨_, List.getElem?_eq_getElem (by rw [Hlen.out]; exact hlt)⟩
      obtain ⟨b, off, hA, -, hc⟩ := HR.out.get hy
      have Hy := Lib.hid hy
      clear hy
      by_cases hyx : y < x
      · subst hA
        have d2 : decide (y < x) = true := decide_eq_true hyx
        have Hno2 := Lib.hid (show ∀ j z, j < k + 1 → l[j]? = some z → z < x from fun j z hj hz => by
          by_cases e : j = k
          · subst e
            rw [Hy.out] at hz
            injection hz with hz
            omega
          · exact hno.out j z (by omega) hz)
        go_wp2
        go_round
        case rel => exact ⟨k + 1, by omega, by go_num, Hno2⟩
        case measure => simp [intOf]; omega
      · have d2 : decide (y < x) = false := decide_eq_false hyx
        have Hfin := Lib.hid (show seek x l = l.drop k from seek_at (by rw [Hlen.out]; omega) hno.out (fun z hz => by rw [Hy.out] at hz; injection hz with hz; omega))
        have hcut := fun W => run_cut_tail intsTy A n c k .i64 (k : Int) rfl hk W
        subst hA
        go_wp2
        go_ret
        exact ⟨k, hk, rfl, Hfin.out, rfl⟩
    · have d1 : decide ((k : Int) < (n : Int)) = false := decide_eq_false (by omega)
      have Hfin := Lib.hid (show seek x l = l.drop k from seek_at (by rw [Hlen.out]; omega) hno.out (fun z hz => by have := (List.getElem?_eq_some_iff.1 hz).1; have := Hlen.out; omega))
      have hcut := fun W => run_cut_tail intsTy A n c k .i64 (k : Int) rfl hk W
      go_wp2
      go_ret
      exact ⟨k, hk, rfl, Hfin.out, rfl⟩
set_option maxRecDepth 100000 in
set_option maxHeartbeats 1000000 in
theorem refSpan_any (w : World) (a b : Int) (ha : W64 a) (hb : W64 b) (hab : b - a ≤ 17592186044416) : Calls Try.prog 19 #[.int .i64 a, .int .i64 b] w (RefNew w (spanL a b)) := by
  have intsTy : AppTy Try.prog 22 3 (.int .i64 0) 1 8 := AppTy.mk' Try.underlying22 (by kernel_rfl) rfl (by decide)
  obtain ⟨ha1, ha2⟩ := ha
  obtain ⟨hb1, hb2⟩ := hb
  go_enter Try.func19, Try.ntmps19
  go_wp2
  go_loopw [5, 6] (fun v5 v6 wr => ∃ (i : Int) (v : Value), a ≤ i ∧ (i ≤ b ∨ i = a) ∧ v5 = v ∧ v6 = .int .i64 i ∧ Hid (wr.ownsRow w.heap.size 3 1 v (spanL a i).length ((spanL a i).map i64v)) ∧ Hid (Below w.heap.size w wr)) (fun _ v6 _ => (b - intOf v6).toNat)
  case atStart => exact ⟨a, _, by omega, Or.inr rfl, rfl, rfl, by rw [span_nil (Int.le_refl a)]; exact World.ownsRow_nil _ _ _ _, Below.refl _ _⟩
  case round =>
    obtain ⟨i, v, hai, hib, rfl, rfl, ho, hg⟩ := hrel
    by_cases hlt : i < b
    · have d1 : decide (i < b) = true := decide_eq_true hlt
      have hle : i ≤ b := by omega
      obtain ⟨m, hm⟩ : ∃ m, m = (spanL a i).length := ⟨_, rfl⟩
      have hml : (m : Int) = i - a := by rw [hm]; simp [spanL]; omega
      have Hsn := Lib.hid (show spanL a (i + 1) = spanL a i ++ [i] by
        unfold spanL
        rw [show (i + 1 - a).toNat = (i - a).toNat + 1 by omega, List.range_succ, List.map_append]
        simp
        omega)
      obtain ⟨S, hS⟩ : ∃ S, S = spanL a i := ⟨_, rfl⟩
      rw [← hS] at ho hm Hsn
      rw [← hm] at ho
      have Hm := Lib.hid hm
      have hown := own_below ho.out (Grow.alloc wr (.cells #[.int .i64 i] 3))
      have hgz := hg.out.size
      have hm2 : m ≤ 17592186044416 := by omega
      have g1 : m + 1 ≤ maxLen := by unfold maxLen; omega
      have g2 : (m + 1) * 8 ≤ 140737488355328 := by omega
      have g3 : w.heap.size ≤ (wr.alloc (.cells #[.int .i64 i] 3)).heap.size := Nat.le_trans hgz (Grow.alloc _ _).size
      have G1 := Lib.hid g1
      have G2 := Lib.hid g2
      have G3 := Lib.hid g3
      clear hm hS hib hml g1 g2 g3
      go_wp2_with (at_builtin; go_loud (refine wpList_append_reads _ rfl (.tmp 13) (.tmp 15) rfl intsTy rfl hown rfl (ReadsAt.made1 wr 3 (.int .i64 i)) (by simp [Value.oneCell']) G1.out G2.out G3.out ?_); intro v' w2 hown2 hgr2 hat2)
      have hg2 : Below w.heap.size w w2 := Below.trans (Below.trans hg.out (Below.mono (Grow.alloc wr (.cells #[.int .i64 i] 3)) hgz)) ((Keep.grown hgr2).below (fun j hj => (hown.lt j hj).1) (by have := (Grow.alloc wr (.cells #[.int .i64 i] 3)).size; omega))
      have Ho2 := Lib.hid (show w2.ownsRow w.heap.size 3 1 v' (spanL a (i + 1)).length ((spanL a (i + 1)).map i64v) by
        rw [Hsn.out, List.length_append, ← Hm.out, List.map_append]
        exact hown2)
      have Hg2 := Lib.hid hg2
      clear hgr2 hat2 hown hown2 hg2
      go_roundw
      case rel => exact ⟨i + 1, _, by omega, Or.inl (by omega), rfl, rfl, Ho2, Hg2⟩
      case measure => simp [intOf]; omega
    · have d1 : decide (i < b) = false := decide_eq_false hlt
      have Hfin := Lib.hid (show spanL a i = spanL a b by
        rcases hib with h | h
        · rw [show i = b by omega]
        · rw [span_nil (by omega), span_nil (by omega)])
      clear hib
      go_wp2
      go_ret
      exact ⟨_, rfl, by rw [← Hfin.out]; exact ho.out, hg.out⟩
set_option maxRecDepth 100000 in
set_option maxHeartbeats 2000000 in
theorem refLess_any (w : World) (B1 B2 : Nat) (A1 A2 : Option Addr) (n1 c1 n2 c2 : Nat) (a b : List Int) (h1 : IntsAt w B1 A1 n1 a) (h2 : IntsAt w B2 A2 n2 b) (hB1 : B1 ≤ w.heap.size) (hB2 : B2 ≤ w.heap.size) (hn1 : n1 ≤ 17592186044416) (hn2 : n2 ≤ 17592186044416) :
    Calls Try.prog 25 #[.slice A1 n1 c1, .slice A2 n2 c2] w (RefNew w (lessL a b)) := by
  have intsTy : AppTy Try.prog 22 3 (.int .i64 0) 1 8 := AppTy.mk' Try.underlying22 (by kernel_rfl) rfl (by decide)
  have Hlen := Lib.hid h1.len
  have H1 := Lib.hid h1
  have H2 := Lib.hid h2
  clear h1 h2
  go_enter Try.func25, Try.ntmps25
  go_wp2
  go_loopw [5, 6] (fun v5 v6 wr => ∃ (k : Nat) (v : Value), k ≤ n1 ∧ v5 = v ∧ v6 = .int .i64 (k : Int) ∧ Hid (wr.ownsRow w.heap.size 3 1 v (lessL (a.take k) b).length ((lessL (a.take k) b).map i64v)) ∧ Hid (Below w.heap.size w wr)) (fun _ v6 _ => n1 - (intOf v6).toNat)
  case atStart => exact ⟨0, _, by omega, rfl, rfl, World.ownsRow_nil _ _ _ _, Below.refl _ _⟩
  case round =>
    obtain ⟨k, v, hk, rfl, rfl, ho, hg⟩ := hrel
    by_cases hlt : k < n1
    · have d1 : decide ((k : Int) < (n1 : Int)) = true := decide_eq_true (by omega)
      obtain ⟨x, hx⟩ : ∃ x, a[k]? = some x := ⟨_, List.getElem?_eq_getElem (by rw [Hlen.out]; exact hlt)⟩
      obtain ⟨p, off, rfl, hpB, hc⟩ := (H1.out.below (Below.mono hg.out hB1)).get hx
      have Hc := Lib.hid (refHas_any wr B2 A2 n2 c2 b x (H2.out.below (Below.mono hg.out hB2)) hn2)
      have Htk := Lib.hid (show a.take (k + 1) = a.take k ++ [x] by rw [List.take_add_one, hx]; rfl)
      obtain ⟨R, hR⟩ : ∃ R, R = lessL (a.take k) b := ⟨_, rfl⟩
      have hRl : R.length ≤ k := by
        rw [hR]
        exact Nat.le_trans (List.length_filter_le _ _) (List.length_take_le _ _)
      have Hsn := Lib.hid (show lessL (a.take (k + 1)) b = if decide (x ∈ b) then R else R ++ [x] by
        rw [Htk.out, lessL, List.filter_append, hR]
        by_cases h : x ∈ b <;> simp [h, lessL])
      rw [← hR] at ho
      obtain ⟨m, hm⟩ : ∃ m, m = R.length := ⟨_, rfl⟩
      rw [← hm] at ho hRl
      have Hm := Lib.hid hm
      clear hx hR hm
      obtain ⟨t, ht⟩ : ∃ t, t = decide (x ∈ b) := ⟨_, rfl⟩
      rw [← ht] at Hc Hsn
      clear ht
      cases t with
      | true =>
        have Hs2 := Lib.hid (show lessL (a.take (k + 1)) b = R by rw [Hsn.out]; rfl)
        go_wp2_with fail
        refine Hc.out.mono ?_
        rintro e w1 ⟨rfl, rfl⟩
        go_wp2
        go_roundw
        case rel => exact ⟨k + 1, _, by omega, rfl, by go_num, by rw [Hs2.out, ← Hm.out]; exact ho, hg⟩
        case measure => simp [intOf]; omega
      | false =>
        have Hs2 := Lib.hid (show lessL (a.take (k + 1)) b = R ++ [x] by rw [Hsn.out]; rfl)
        go_wp2_with fail
        refine Hc.out.mono ?_
        rintro e w1 ⟨rfl, rfl⟩
        clear Hc
        have hown := own_below ho.out (Grow.alloc wr (.cells #[.int .i64 x] 3))
        have hgz := hg.out.size
        have G1 := Lib.hid (show m + 1 ≤ maxLen by unfold maxLen; omega)
        have G2 := Lib.hid (show (m + 1) * 8 ≤ 140737488355328 by omega)
        have G3 := Lib.hid (show w.heap.size ≤ (wr.alloc (.cells #[.int .i64 x] 3)).heap.size from Nat.le_trans hgz (Grow.alloc _ _).size)
        go_wp2_with (at_builtin; refine wpList_append_reads _ rfl (.tmp 20) (.tmp 25) rfl intsTy rfl hown rfl (ReadsAt.made1 wr 3 (.int .i64 x)) (by simp [Value.oneCell']) G1.out G2.out G3.out ?_; intro v' w2 hown2 hgr2 hat2)
        have hg2 : Below w.heap.size w w2 := Below.trans (Below.trans hg.out (Below.mono (Grow.alloc wr (.cells #[.int .i64 x] 3)) hgz)) ((Keep.grown hgr2).below (fun j hj => (hown.lt j hj).1) G3.out)
        have Ho2 := Lib.hid (show w2.ownsRow w.heap.size 3 1 v' (lessL (a.take (k + 1)) b).length ((lessL (a.take (k + 1)) b).map i64v) by
          rw [Hs2.out, List.length_append, ← Hm.out, List.map_append]
          exact hown2)
        have Hg2 := Lib.hid hg2
        clear hgr2 hat2 hown hown2 hg2 hgz
        go_roundw
        case rel => exact ⟨k + 1, _, by omega, rfl, by go_num, Ho2, Hg2⟩
        case measure => simp [intOf]; omega
    · have d1 : decide ((k : Int) < (n1 : Int)) = false := decide_eq_false (by omega)
      obtain rfl : k = n1 := by omega
      rw [List.take_of_length_le (show a.length ≤ k by rw [Hlen.out]; exact Nat.le_refl _)] at ho
      go_wp2
      go_ret
      exact ⟨_, rfl, ho.out, hg.out⟩
set_option maxRecDepth 100000 in
set_option maxHeartbeats 2000000 in
theorem refRow_any (w : World) (B : Nat) (A : Option Addr) (n c : Nat) (l : List Int) (h1 : IntsAt w B A n l) (hB : B ≤ w.heap.size) (hn : n ≤ 17592186044416) : Calls Try.prog 15 #[.slice A n c] w (RefNew w (rowL l)) := by
  have intsTy : AppTy Try.prog 22 3 (.int .i64 0) 1 8 := AppTy.mk' Try.underlying22 (by kernel_rfl) rfl (by decide)
  have Hlen := Lib.hid h1.len
  have H1 := Lib.hid h1
  clear h1
  go_enter Try.func15, Try.ntmps15
  go_wp2
  go_loopw [3, 4] (fun v3 v4 wr => ∃ (k : Nat) (v : Value), k ≤ n ∧ v3 = v ∧ v4 = .int .i64 (k : Int) ∧ Hid (wr.ownsRow w.heap.size 3 1 v (rowL (l.take k)).length ((rowL (l.take k)).map i64v)) ∧ Hid (Below w.heap.size w wr)) (fun _ v4 _ => n - (intOf v4).toNat)
  case atStart => exact ⟨0, _, by omega, rfl, rfl, World.ownsRow_nil _ _ _ _, Below.refl _ _⟩
  case round =>
    obtain ⟨k, v, hk, rfl, rfl, ho, hg⟩ := hrel
    obtain ⟨wo, rfl⟩ : ∃ wo : World, wo = wr := ⟨_, rfl⟩
    by_cases hlt : k < n
    · have d1 : decide ((k : Int) < (n : Int)) = true := decide_eq_true (by omega)
      obtain ⟨x, hx⟩ : ∃ x, l[k]? = some x := ⟨_, List.getElem?_eq_getElem (by rw [Hlen.out]; exact hlt)⟩
      obtain ⟨p, off, rfl, hpB, hc⟩ := (H1.out.below (Below.mono hg.out hB)).get hx
      have hpz : p < wo.heap.size := by have := hg.out.size; omega
      have Hsn := Lib.hid (show rowL (l.take (k + 1)) = rowStep (rowL (l.take k)) x by rw [List.take_add_one, hx]; exact row_snoc _ _)
      have hrl : (rowL (l.take k)).length ≤ k := Nat.le_trans (row_len _) (List.length_take_le _ _)
      obtain ⟨R, hR⟩ : ∃ R, R = rowL (l.take k) := ⟨_, rfl⟩
      rw [← hR] at ho hrl Hsn
      obtain ⟨m, hm⟩ : ∃ m, m = R.length := ⟨_, rfl⟩
      rw [← hm] at ho hrl
      have Hm := Lib.hid hm
      obtain ⟨A1, c1, rfl, h11, h12, h13⟩ := own_reads ho.out
      clear hx hR hm
      by_cases hm0 : m = 0
      · subst hm0
        have Hs2 := Lib.hid (show rowL (l.take (k + 1)) = R ++ [x] by
          rw [Hsn.out, List.eq_nil_of_length_eq_zero Hm.out.symm]
          rfl)
        clear h13
        go_wp2_with fail
        go_quiet (fail)
        obtain ⟨wr, hwr⟩ : ∃ wr, wo.drewN nq = wr := ⟨_, rfl⟩
        have ho : Hid (wr.ownsRow w.heap.size 3 1 (.slice A1 0 c1) 0 (R.map i64v)) := by rw [← hwr]; exact ho
        have hg : Hid (Below w.heap.size w wr) := by rw [← hwr]; exact Below.trans hg.out (Below.mono (Grow.drewN wo nq) hg.out.size)
        have hc : wr.cell? ⟨p, off + k, none⟩ = some (.int .i64 x) := by rw [← hwr]; exact hc
        rw [hwr]
        clear hwr
        have hown := own_below ho.out (Grow.alloc wr (.cells #[.int .i64 x] 3))
        have hgz := hg.out.size
        have G1 := Lib.hid (show 0 + 1 ≤ maxLen by unfold maxLen; omega)
        have G2 := Lib.hid (show (0 + 1) * 8 ≤ 140737488355328 by omega)
        have G3 := Lib.hid (show w.heap.size ≤ (wr.alloc (.cells #[.int .i64 x] 3)).heap.size from Nat.le_trans hgz (Grow.alloc _ _).size)
        go_wp2_with (at_builtin; refine wpList_append_reads _ rfl (.tmp 27) (.tmp 32) rfl intsTy rfl hown rfl (ReadsAt.made1 wr 3 (.int .i64 x)) (by simp [Value.oneCell']) G1.out G2.out G3.out ?_; intro v' w2 hown2 hgr2 hat2)
        have hg2 : Below w.heap.size w w2 := Below.trans (Below.trans hg.out (Below.mono (Grow.alloc wr (.cells #[.int .i64 x] 3)) hgz)) ((Keep.grown hgr2).below (fun j hj => (hown.lt j hj).1) G3.out)
        have Ho2 := Lib.hid (show w2.ownsRow w.heap.size 3 1 v' (rowL (l.take (k + 1))).length ((rowL (l.take (k + 1))).map i64v) by
          rw [Hs2.out, List.length_append, ← Hm.out, List.map_append]
          exact hown2)
        have Hg2 := Lib.hid hg2
        clear hgr2 hat2 hown hown2 hg2 hgz
        go_roundw
        case rel => exact ⟨k + 1, _, by omega, rfl, by go_num, Ho2, Hg2⟩
        case measure => simp [intOf]; omega
      · have d2 : ((m : Int) == 0) = false := by rw [beq_eq_false_iff_ne]; omega
        obtain ⟨y, hy⟩ : ∃ y, R[m - 1]? = some y := ⟨_, List.getElem?_eq_getElem (by rw [← Hm.out]; omega)⟩
        have Hlast := Lib.hid (show R.getLast? = some y by rw [List.getLast?_eq_getElem?, ← Hm.out, hy])
        obtain ⟨b1, off1, rfl, hb1, h14⟩ := h13.2 (by omega)
        have hcl : wo.cell? ⟨b1, off1 + (m - 1), none⟩ = some (.int .i64 y) := h14 (m - 1) (i64v y) (by rw [List.getElem?_map, hy]; rfl)
        have em : ((m : Int) - 1).toNat = m - 1 := by omega
        have em2 : IntKind.i64.wrap ((m : Int) - 1) = (m : Int) - 1 := IntWalk.i64_in _ (by omega)
        have em3 : (0 : Int) ≤ (m : Int) - 1 := by omega
        clear hy h14 h13
        by_cases hyx : y < x
        · have d3 : decide (y < x) = true := decide_eq_true hyx
          have Hs2 := Lib.hid (show rowL (l.take (k + 1)) = R ++ [x] by
            rw [Hsn.out]
            unfold rowStep
            rw [Hlast.out]
            simp only
            rw [if_pos hyx])
          go_wp2_with fail
          go_quiet (fail)
          obtain ⟨wr, hwr⟩ : ∃ wr, wo.drewN nq = wr := ⟨_, rfl⟩
          have ho : Hid (wr.ownsRow w.heap.size 3 1 (.slice (some ⟨b1, off1, none⟩) m c1) m (R.map i64v)) := by rw [← hwr]; exact ho
          have hg : Hid (Below w.heap.size w wr) := by rw [← hwr]; exact Below.trans hg.out (Below.mono (Grow.drewN wo nq) hg.out.size)
          have hc : wr.cell? ⟨p, off + k, none⟩ = some (.int .i64 x) := by rw [← hwr]; exact hc
          rw [hwr]
          clear hwr
          have hown := own_below ho.out (Grow.alloc wr (.cells #[.int .i64 x] 3))
          have hgz := hg.out.size
          have G1 := Lib.hid (show m + 1 ≤ maxLen by unfold maxLen; omega)
          have G2 := Lib.hid (show (m + 1) * 8 ≤ 140737488355328 by omega)
          have G3 := Lib.hid (show w.heap.size ≤ (wr.alloc (.cells #[.int .i64 x] 3)).heap.size from Nat.le_trans hgz (Grow.alloc _ _).size)
          go_wp2_with (at_builtin; refine wpList_append_reads _ rfl (.tmp 27) (.tmp 32) rfl intsTy rfl hown rfl (ReadsAt.made1 wr 3 (.int .i64 x)) (by simp [Value.oneCell']) G1.out G2.out G3.out ?_; intro v' w2 hown2 hgr2 hat2)
          have hg2 : Below w.heap.size w w2 := Below.trans (Below.trans hg.out (Below.mono (Grow.alloc wr (.cells #[.int .i64 x] 3)) hgz)) ((Keep.grown hgr2).below (fun j hj => (hown.lt j hj).1) G3.out)
          have Ho2 := Lib.hid (show w2.ownsRow w.heap.size 3 1 v' (rowL (l.take (k + 1))).length ((rowL (l.take (k + 1))).map i64v) by
            rw [Hs2.out, List.length_append, ← Hm.out, List.map_append]
            exact hown2)
          have Hg2 := Lib.hid hg2
          clear hgr2 hat2 hown hown2 hg2 hgz
          go_roundw
          case rel => exact ⟨k + 1, _, by omega, rfl, by go_num, Ho2, Hg2⟩
          case measure => simp [intOf]; omega
        · have d3 : decide (y < x) = false := decide_eq_false hyx
          have Hs2 := Lib.hid (show rowL (l.take (k + 1)) = R by
            rw [Hsn.out]
            unfold rowStep
            rw [Hlast.out]
            simp only
            rw [if_neg hyx])
          go_wp2_with fail
          go_quiet (fail)
          go_wp2
          go_roundw
          case rel => exact ⟨k + 1, _, by omega, rfl, by go_num, by rw [Hs2.out, ← Hm.out]; exact ho, Below.trans hg.out (Below.mono (Grow.drewN _ _) hg.out.size)⟩
          case measure => simp [intOf]; omega
    · have d1 : decide ((k : Int) < (n : Int)) = false := decide_eq_false (by omega)
      obtain rfl : k = n := by omega
      rw [List.take_of_length_le (show l.length ≤ k by rw [Hlen.out]; exact Nat.le_refl _)] at ho
      go_wp2
      go_ret
      exact ⟨_, rfl, ho.out, hg.out⟩
/-- a slice of slices of ints reads as the rows ls -/
def IRowsAt (w : World) (B : Nat) (A : Option Addr) (n : Nat) (ls : List (List Int)) : Prop :=
  ls.length = n ∧ (0 < n → ∃ b off, A = some ⟨b, off, none⟩ ∧ b < B ∧ ∀ (j : Nat) (l : List Int), ls[j]? = some l → ∃ A' n' c', w.cell? ⟨b, off + j, none⟩ = some (.slice A' n' c') ∧ n' ≤ 17592186044416 ∧ IntsAt w B A' n' l)
theorem IRowsAt.below {w w' : World} {B n : Nat} {A : Option Addr} {ls : List (List Int)} (h : IRowsAt w B A n ls) (hb : Below B w w') : IRowsAt w' B A n ls :=
  ⟨h.1, fun hn => by
    obtain ⟨b, off, e, h1, h2⟩ := h.2 hn
    refine ⟨b, off, e, h1, fun j l hl => ?_⟩
    obtain ⟨A', n', c', h3, h4, h5⟩ := h2 j l hl
    exact ⟨A', n', c', (hb.cell (p := ⟨b, off + j, none⟩) h1).trans h3, h4, h5.below hb⟩⟩
theorem IRowsAt.get {w : World} {B n b off : Nat} {ls : List (List Int)} (h : IRowsAt w B (some ⟨b, off, none⟩) n ls) {k : Nat} {l : List Int} (hl : ls[k]? = some l) : b < B ∧ ∃ A' n' c', w.cell? ⟨b, off + k, none⟩ = some (.slice A' n' c') ∧ n' ≤ 17592186044416 ∧ IntsAt w B A' n' l := by
  have h1 := (List.getElem?_eq_some_iff.1 hl).1
  obtain ⟨b', off', e, h2, h3⟩ := h.2 (by have := h.1; omega)
  injection e with e
  injection e with e1 e2
  subst e1 e2
  exact ⟨h2, h3 k l hl⟩
def inAll (x : Int) (ls : List (List Int)) : Bool := ls.all fun l => decide (x ∈ l)
theorem inAll_succ {x : Int} {ls : List (List Int)} {k : Nat} {l : List Int} (h : ls[k]? = some l) : inAll x (ls.take (k + 1)) = (inAll x (ls.take k) && decide (x ∈ l)) := by
  rw [List.take_add_one, h]
  simp [inAll]
theorem meetL_eq (l : List Int) (r : List (List Int)) : meetL (l :: r) = l.filter fun x => inAll x (l :: r) := by
  show (l.filter fun x => (l :: r).all (·.contains x)) = _
  congr 1
  funext x
  unfold inAll
  congr 1
  funext m
  exact List.contains_eq_mem _ _
set_option maxRecDepth 100000 in
set_option maxHeartbeats 4000000 in
theorem refMeet_any (w : World) (B : Nat) (A : Option Addr) (n c : Nat) (ls : List (List Int)) (h1 : IRowsAt w B A n ls) (hB : B ≤ w.heap.size) (hn : n ≤ 17592186044416) : Calls Try.prog 22 #[.slice A n c] w (RefNew w (meetL ls)) := by
  have intsTy : AppTy Try.prog 22 3 (.int .i64 0) 1 8 := AppTy.mk' Try.underlying22 (by kernel_rfl) rfl (by decide)
  cases ls with
  | nil =>
    obtain rfl : n = 0 := h1.1.symm
    go_enter Try.func22, Try.ntmps22
    go_wp2
    go_loopw [3] (fun v3 wr => v3 = .slice none 0 0 ∧ w = wr) (fun _ _ => 0)
    case atStart => exact ⟨rfl, rfl⟩
    case round =>
      obtain ⟨rfl, rfl⟩ := hrel
      go_wp2
      go_ret
      exact ⟨_, rfl, World.ownsRow_nil _ _ _ _, Grow.refl _⟩
  | cons l0 r =>
    have hn0 : 0 < n := by have := h1.1; simp at this; omega
    have Hlen := Lib.hid (show (l0 :: r).length = n from h1.1)
    have HM := Lib.hid (meetL_eq l0 r)
    obtain ⟨b, off, rfl, -, -⟩ := h1.2 hn0
    have H0 := Lib.hid (show (l0 :: r)[0]? = some l0 from rfl)
    obtain ⟨ls, hls⟩ : ∃ ls, ls = l0 :: r := ⟨_, rfl⟩
    rw [← hls] at h1 Hlen HM H0 ⊢
    have H1 := Lib.hid h1
    clear hls h1
    have dn : decide ((0 : Int) < (n : Int)) = true := decide_eq_true (by omega)
    go_enter Try.func22, Try.ntmps22
    go_wp2
    go_loopw [3, 4] (fun v3 v4 wr => ∃ (i : Nat) (v : Value), i ≤ l0.length ∧ v = v3 ∧ v4 = .int .i64 (i : Int) ∧ Hid (wr.ownsRow w.heap.size 3 1 v ((l0.take i).filter fun x => inAll x ls).length (((l0.take i).filter fun x => inAll x ls).map i64v)) ∧ Hid (Below w.heap.size w wr)) (fun _ v4 _ => l0.length - (intOf v4).toNat)
    case atStart => exact ⟨0, _, by omega, rfl, rfl, World.ownsRow_nil _ _ _ _, Below.refl _ _⟩
    case round =>
      obtain ⟨i, v, hi, rfl, rfl, ho, hg⟩ := hrel
      obtain ⟨wo, rfl⟩ : ∃ wo : World, wo = wr := ⟨_, rfl⟩
      have Hrd := Lib.hid (H1.out.below (Below.mono hg.out hB))
      obtain ⟨hbB, A0, n0, c0, hc0, hn0b, hi0⟩ := Hrd.out.get H0.out
      rw [Nat.add_zero] at hc0
      have Hl0 := Lib.hid hi0.len
      have Hi0 := Lib.hid hi0
      obtain ⟨z, hz⟩ : ∃ z, z = l0.length := ⟨_, rfl⟩
      have hz2 : n0 = z := by rw [hz]; exact hi0.len.symm
      subst hz2
      have Hz := Lib.hid hz
      rw [← hz] at hi
      have hbz : b < wo.heap.size := by have := hg.out.size; omega
      clear hi0 hz
      by_cases hlt : i < n0
      · have d1 : decide ((i : Int) < (n0 : Int)) = true := decide_eq_true (by omega)
        obtain ⟨x, hx⟩ : ∃ x, l0[i]? = some x := ⟨_, List.getElem?_eq_getElem (by rw [← Hz.out]; exact hlt)⟩
        obtain ⟨p, poff, rfl, hpB, hcx⟩ := Hi0.out.get hx
        have Hx := Lib.hid hx
        have Hcx := Lib.hid hcx
        clear hx
        go_wp2
        go_loopw [5, 6] (fun v5 v6 wr => ∃ (k q : Nat) (t : Bool), k ≤ n ∧ v5 = .bool t ∧ v6 = .int .i64 (k : Int) ∧ Hid (t = inAll x (ls.take k)) ∧ wo.drewN q = wr) (fun _ v6 _ => n - (intOf v6).toNat)
        case atStart => exact ⟨0, 0, _, by omega, rfl, rfl, rfl, rfl⟩
        case round =>
          obtain ⟨k, q, t, hk, rfl, rfl, ht, rfl⟩ := hrel
          by_cases hkn : k < n
          · have d2 : decide ((k : Int) < (n : Int)) = true := decide_eq_true (by omega)
            obtain ⟨lk, hlk⟩ : ∃ l, ls[k]? = some l := ⟨_, List.getElem?_eq_getElem (by rw [Hlen.out]; exact hkn)⟩
            obtain ⟨-, Ak, nk, ck, hck, hnk, hik⟩ := Hrd.out.get hlk
            have Ht := Lib.hid (show inAll x (ls.take (k + 1)) = (t && decide (x ∈ lk)) by rw [inAll_succ hlk, ht.out])
            have Hcall := fun q2 => refHas_any (wo.drewN q2) B Ak nk ck lk x hik hnk
            have HC := Lib.hid Hcall
            clear hlk hik Hcall
            cases t with
            | true =>
              obtain ⟨u, hu⟩ : ∃ u, u = decide (x ∈ lk) := ⟨_, rfl⟩
              rw [← hu] at Ht HC
              clear hu
              go_wp2_with fail
              go_quiet ((go_at_call 32; exact quiet_add_left (HC.out _)))
              go_wp2
              go_roundw
              case rel => exact ⟨k + 1, _, _, by omega, rfl, by go_num, by rw [Ht.out]; rfl, rfl⟩
              case measure => simp [intOf]; omega
            | false =>
              go_wp2_with fail
              go_quiet ((go_at_call 32; exact quiet_add_left (HC.out _)))
              go_wp2
              go_roundw
              case rel => exact ⟨k + 1, _, _, by omega, rfl, by go_num, by rw [Ht.out]; rfl, rfl⟩
              case measure => simp [intOf]; omega
          · have d2 : decide ((k : Int) < (n : Int)) = false := decide_eq_false (by omega)
            have Ht := Lib.hid (show inAll x ls = t by
              rw [ht.out, List.take_of_length_le (by rw [Hlen.out]; omega)])
            obtain ⟨wr, hwr⟩ : ∃ wr, wo.drewN q = wr := ⟨_, rfl⟩
            have ho : Hid (wr.ownsRow w.heap.size 3 1 v ((l0.take i).filter fun x => inAll x ls).length (((l0.take i).filter fun x => inAll x ls).map i64v)) := by rw [← hwr]; exact ho
            have hg : Hid (Below w.heap.size w wr) := by rw [← hwr]; exact Below.trans hg.out (Below.mono (Grow.drewN wo q) hg.out.size)
            have hc0 : wr.cell? ⟨b, off, none⟩ = some (.slice (some ⟨p, poff, none⟩) n0 c0) := by rw [← hwr]; exact hc0
            have hcx : wr.cell? ⟨p, poff + i, none⟩ = some (.int .i64 x) := by rw [← hwr]; exact Hcx.out
            rw [hwr]
            clear hwr
            have Htk := Lib.hid (show (l0.take (i + 1)).filter (fun x => inAll x ls) = (l0.take i).filter (fun x => inAll x ls) ++ (if t then [x] else []) by
              rw [List.take_add_one, Hx.out, List.filter_append]
              cases t <;> simp [Ht.out])
            obtain ⟨R, hR⟩ : ∃ R, R = (l0.take i).filter fun x => inAll x ls := ⟨_, rfl⟩
            rw [← hR] at ho Htk
            have hRl : R.length ≤ i := by rw [hR]; exact Nat.le_trans (List.length_filter_le _ _) (List.length_take_le _ _)
            obtain ⟨m, hm⟩ : ∃ m, m = R.length := ⟨_, rfl⟩
            rw [← hm] at ho hRl
            have Hm := Lib.hid hm
            clear hR hm ht
            cases t with
            | true =>
              have Hs2 := Lib.hid (show (l0.take (i + 1)).filter (fun x => inAll x ls) = R ++ [x] from Htk.out)
              have hown := own_below ho.out (Grow.alloc wr (.cells #[.int .i64 x] 3))
              have hgz := hg.out.size
              have G1 := Lib.hid (show m + 1 ≤ maxLen by unfold maxLen; omega)
              have G2 := Lib.hid (show (m + 1) * 8 ≤ 140737488355328 by omega)
              have G3 := Lib.hid (show w.heap.size ≤ (wr.alloc (.cells #[.int .i64 x] 3)).heap.size from Nat.le_trans hgz (Grow.alloc _ _).size)
              go_wp2_with (at_builtin; refine wpList_append_reads _ rfl (.tmp 41) (.tmp 48) rfl intsTy rfl hown rfl (ReadsAt.made1 wr 3 (.int .i64 x)) (by simp [Value.oneCell']) G1.out G2.out G3.out ?_; intro v' w2 hown2 hgr2 hat2)
              have hg2 : Below w.heap.size w w2 := Below.trans (Below.trans hg.out (Below.mono (Grow.alloc wr (.cells #[.int .i64 x] 3)) hgz)) ((Keep.grown hgr2).below (fun j hj => (hown.lt j hj).1) G3.out)
              have Ho2 := Lib.hid (show w2.ownsRow w.heap.size 3 1 v' ((l0.take (i + 1)).filter (fun x => inAll x ls)).length (((l0.take (i + 1)).filter (fun x => inAll x ls)).map i64v) by
                rw [Hs2.out, List.length_append, ← Hm.out, List.map_append]
                exact hown2)
              have Hg2 := Lib.hid hg2
              clear hgr2 hat2 hown hown2 hg2 hgz
              go_roundw
              case rel => exact ⟨i + 1, _, by have := Hz.out; omega, rfl, by go_num, Ho2, Hg2⟩
              case measure => have := Hz.out; simp [intOf]; omega
            | false =>
              have Hs2 := Lib.hid (show (l0.take (i + 1)).filter (fun x => inAll x ls) = R by rw [Htk.out]; simp)
              go_wp2
              go_roundw
              case rel => exact ⟨i + 1, _, by have := Hz.out; omega, rfl, by go_num, by rw [Hs2.out, ← Hm.out]; exact ho, hg⟩
              case measure => have := Hz.out; simp [intOf]; omega
      · have d1 : decide ((i : Int) < (n0 : Int)) = false := decide_eq_false (by omega)
        obtain rfl : i = n0 := by omega
        rw [List.take_of_length_le (show l0.length ≤ i by rw [← Hz.out]; exact Nat.le_refl _)] at ho
        rw [← HM.out] at ho
        go_wp2
        go_ret
        exact ⟨_, rfl, ho.out, hg.out⟩
end Go.Proofs.Ythjnggclemhgkaa
