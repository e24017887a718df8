/-
  The walks of cursor's row and span: where they stand, how they are sought.
-/
import Derived.Test.YtamdejidkgnaeaaCur
namespace Go.Proofs.Ytamdejidkgnaeaa
open Go.RowKit CurM
set_option linter.unusedVariables false

theorem VecAt.int {w : World} {own : Nat → Prop} {A : Option Addr} {n c : Nat} {L : List Int} (h : VecAt w own A n c (L.map i64v)) {k : Nat} {x : Int} (hx : L[k]? = some x) : ∃ b off, A = some ⟨b, off, none⟩ ∧ own b ∧ b < w.heap.size ∧ w.cell? ⟨b, off + k, none⟩ = some (.int .i64 x) := by
  have hk := (List.getElem?_eq_some_iff.1 hx).1
  have hl := h.len
  rw [List.length_map] at hl
  obtain ⟨b, off, e, h1, h2, h3⟩ := h.at_ (by omega)
  exact ⟨b, off, e, h1, h2, h3 k (i64v x) (by rw [List.getElem?_map, hx]; rfl)⟩
theorem VecAt.drop {w : World} {own : Nat → Prop} {A : Option Addr} {n c k : Nat} {vs : List Value} (h : VecAt w own A n c vs) (hk : k ≤ n) : VecAt w own (cutA A c k 1) (n - k) (c - k) (vs.drop k) := by
  refine ⟨by rw [List.length_drop, h.len], Nat.sub_le_sub_right h.cap k, Nat.le_trans (Nat.sub_le _ _) h.top, fun hn => ?_⟩
  obtain ⟨b, off, rfl, h1, h2, h3⟩ := h.at_ (by omega)
  have hc := h.cap
  refine ⟨b, off + k, ?_, h1, h2, fun j v hv => ?_⟩
  · unfold cutA
    rw [if_neg (by omega), Nat.mul_one]
    simp [Addr.add]
  · rw [Nat.add_assoc]
    exact h3 (k + j) v (by rwa [List.getElem?_drop] at hv)
theorem isNaN_any (x : Int) (w : World) : Calls Try.prog 87 #[.int .i64 x] w fun e w' => e = .returned (.bool false) ∧ w = w' := by
  have hne : (x != x) = false := by simp
  go_enter Try.func87, Try.ntmps87
  go_wp2
  go_ret
  exact ⟨rfl, rfl⟩
theorem cmpNaN_any (x : Int) (w : World) : Calls Try.prog 58 #[.int .i64 x] w fun e w' => e = .returned (.bool false) ∧ w = w' := by
  have hne : (x != x) = false := by simp
  go_enter Try.func58, Try.ntmps58
  go_wp2
  go_ret
  exact ⟨rfl, rfl⟩
theorem cmpLess_any (x y : Int) (w : World) : Calls Try.prog 86 #[.int .i64 x, .int .i64 y] w fun e w' => e = .returned (.bool (decide (x < y))) ∧ w = w' := by
  go_enter Try.func86, Try.ntmps86
  go_wp2_with (first | (go_at_call 58; refine (cmpNaN_any _ _).mono ?_; rintro e w' ⟨rfl, rfl⟩))
  go_ret
  exact ⟨rfl, rfl⟩

def BinTo (L : List Int) (n : Nat) (x : Int) (w : World) (e : Ending) (w' : World) : Prop := ∃ (k : Nat) (b : Bool), e = .returned (.tuple #[.int .i64 (k : Int), .bool b]) ∧ k ≤ n ∧ seek x L = L.drop k ∧ w = w'
set_option maxRecDepth 100000 in
set_option maxHeartbeats 1000000 in
theorem binRow_any (w : World) (own : Nat → Prop) (A : Option Addr) (n c : Nat) (L : List Int) (x : Int) (hv : VecAt w own A n c (L.map i64v)) (hu : Up L) (hn : n ≤ 140737488355328) :
    Calls Try.prog 85 #[.slice A n c, .int .i64 x] w (BinTo L n x w) := by
  have hlen : L.length = n := by have := hv.len; simpa using this
  have Hlen := Lib.hid hlen
  have Hu := Lib.hid hu
  clear hlen hu
  go_enter Try.func85, Try.ntmps85
  go_wp2
  go_loop [7, 8] (fun v7 v8 => ∃ i j : Nat, i ≤ j ∧ j ≤ n ∧ v7 = .int .i64 (i : Int) ∧ v8 = .int .i64 (j : Int) ∧ Hid (∀ k y, k < i → L[k]? = some y → y < x) ∧ Hid (∀ k y, j ≤ k → L[k]? = some y → x ≤ y)) (fun v7 v8 => (intOf v8 - intOf v7).toNat)
  case atStart => exact ⟨0, n, by omega, by omega, rfl, rfl, fun k y h => by omega, fun k y h hy => by have := (List.getElem?_eq_some_iff.1 hy).1; have := Hlen.out; omega⟩
  case round =>
    obtain ⟨i, j, hij, hj, rfl, rfl, hlo, hhi⟩ := hrel
    by_cases hlt : i < j
    · have d1 : decide ((i : Int) < (j : Int)) = true := decide_eq_true (by omega)
      obtain ⟨h, hh⟩ : ∃ h, h = (i + j) / 2 := ⟨_, rfl⟩
      have hh1 : i ≤ h := by omega
      have hh2 : h < j := by omega
      obtain ⟨y, hy⟩ : ∃ y, L[h]? = some y := ⟨_, List.getElem?_eq_getElem (by rw [Hlen.out]; omega)⟩
      obtain ⟨b, off, rfl, -, -, hc⟩ := hv.int hy
      have e2 : IntKind.u64.wrap ((i : Int) + (j : Int)) = (i : Int) + (j : Int) := by rw [IntKind.wrap_u64]; omega
      have e3 : ((i : Int) + (j : Int)) / 2 = (h : Int) := by omega
      have Hy := Lib.hid hy
      have Hh := Lib.hid hh
      clear hy hh
      by_cases hyx : y < x
      · have d2 : decide (y < x) = true := decide_eq_true hyx
        go_wp2_with (first | (go_at_call 86; refine (cmpLess_any _ _ _).mono ?_; rintro e w' ⟨rfl, rfl⟩))
        go_round
        case rel => exact ⟨h + 1, j, by omega, hj, by go_num, rfl, fun k z hk hz => by
          by_cases e : k = h
          · subst e
            have h1 := Hy.out
            rw [h1] at hz
            injection hz with hz
            omega
          · obtain ⟨hlk, hz2⟩ := List.getElem?_eq_some_iff.1 hz
            obtain ⟨hlh, hy2⟩ := List.getElem?_eq_some_iff.1 Hy.out
            have := List.pairwise_iff_getElem.1 Hu.out k h hlk hlh (by omega)
            rw [hz2, hy2] at this
            omega, hhi⟩
        case measure => simp [intOf]; omega
      · have d2 : decide (y < x) = false := decide_eq_false hyx
        go_wp2_with (first | (go_at_call 86; refine (cmpLess_any _ _ _).mono ?_; rintro e w' ⟨rfl, rfl⟩))
        go_round
        case rel => exact ⟨i, h, hh1, by omega, rfl, rfl, hlo, fun k z hk hz => by
          by_cases e : k = h
          · subst e
            have h1 := Hy.out
            rw [h1] at hz
            injection hz with hz
            omega
          · obtain ⟨hlk, hz2⟩ := List.getElem?_eq_some_iff.1 hz
            obtain ⟨hlh, hy2⟩ := List.getElem?_eq_some_iff.1 Hy.out
            have := List.pairwise_iff_getElem.1 Hu.out h k hlh hlk (by omega)
            rw [hz2, hy2] at this
            omega⟩
        case measure => simp [intOf]; omega
    · have d1 : decide ((i : Int) < (j : Int)) = false := decide_eq_false (by omega)
      obtain rfl : i = j := by omega
      have Hs := Lib.hid (show seek x L = L.drop i from seek_at (by rw [Hlen.out]; exact hj) hlo.out (fun y hy => hhi.out i y (Nat.le_refl _) hy))
      by_cases hin : i < n
      · obtain ⟨y, hy⟩ : ∃ y, L[i]? = some y := ⟨_, List.getElem?_eq_getElem (by rw [Hlen.out]; omega)⟩
        obtain ⟨b, off, rfl, -, -, hc⟩ := hv.int hy
        clear hy
        by_cases hyx : y = x
        · subst hyx
          have d2 : (y == y) = true := by simp
          go_wp2_with (first | (go_at_call 87; refine (isNaN_any _ _).mono ?_; rintro e w' ⟨rfl, rfl⟩))
          go_ret2
          exact ⟨i, _, rfl, hj, Hs.out, rfl⟩
        · have d2 : (y == x) = false := by rw [beq_eq_false_iff_ne]; exact hyx
          go_wp2_with (first | (go_at_call 87; refine (isNaN_any _ _).mono ?_; rintro e w' ⟨rfl, rfl⟩))
          go_ret2
          exact ⟨i, _, rfl, hj, Hs.out, rfl⟩
      · have d2 : decide ((i : Int) < (n : Int)) = false := decide_eq_false (by omega)
        go_wp2_with (first | (go_at_call 87; refine (isNaN_any _ _).mono ?_; rintro e w' ⟨rfl, rfl⟩))
        go_ret2
        exact ⟨i, _, rfl, hj, Hs.out, rfl⟩

/-- where a row stands -/
theorem rowNow_any (w : World) (r : Nat) (own : Nat → Prop) (A : Option Addr) (n c : Nat) (L : List Int) (hr : Blk w r 77 #[.slice A n c]) (hv : VecAt w own A n c (L.map i64v)) :
    Calls Try.prog 83 #[.pointer (some ⟨r, 0, none⟩)] w fun e w' => e = .returned (.tuple #[.int .i64 (L.headD 0), .bool (!L.isEmpty)]) ∧ w = w' := by
  have hlen : L.length = n := by have := hv.len; simpa using this
  have hc0 := hr.cell 0
  cases L with
  | nil =>
    obtain rfl : n = 0 := hlen.symm
    go_enter Try.func83, Try.ntmps83
    go_wp2
    go_ret2
    exact ⟨rfl, rfl⟩
  | cons x t =>
    obtain ⟨b, off, rfl, -, -, hc⟩ := hv.int (show (x :: t)[0]? = some x from rfl)
    have hn : 0 < n := by rw [← hlen]; simp
    have d1 : ((n : Int) == 0) = false := by rw [beq_eq_false_iff_ne]; omega
    rw [Nat.add_zero] at hc
    clear hlen
    go_enter Try.func83, Try.ntmps83
    go_wp2
    go_ret2
    exact ⟨rfl, rfl⟩
set_option maxRecDepth 100000 in
set_option maxHeartbeats 1000000 in
/-- a row is sought -/
theorem rowSeek_any (w : World) (r : Nat) (own : Nat → Prop) (A : Option Addr) (n c : Nat) (L : List Int) (x : Int) (hr : Blk w r 77 #[.slice A n c]) (hv : VecAt w own A n c (L.map i64v)) (hu : Up L) (hn : n ≤ 140737488355328) :
    Calls Try.prog 84 #[.pointer (some ⟨r, 0, none⟩), .int .i64 x] w fun e w' => e = .returned (.tuple #[]) ∧ ∃ A' n' c', n' ≤ n ∧ VecAt w own A' n' c' ((seek x L).map i64v) ∧ w' = w.setCell ⟨r, 0, none⟩ (.slice A' n' c') := by
  have rowTy : AppTy Try.prog 77 3 (.int .i64 0) 1 8 := AppTy.mk' Try.underlying77 (by kernel_rfl) rfl (by decide)
  have hlen : L.length = n := by have := hv.len; simpa using this
  have hc0 := hr.cell 0
  have hf0 := hr.frozen 0
  go_enter Try.func84, Try.ntmps84
  go_wp2_with fail
  refine (binRow_any w own A n c L x hv hu hn).mono ?_
  rintro e w' ⟨k, b, rfl, hk, hs, rfl⟩
  have hcut := fun W => run_cut_tail rowTy A n c k .i64 (k : Int) rfl hk W
  have Hv := Lib.hid (show VecAt w own (cutA A c k 1) (n - k) (c - k) ((seek x L).map i64v) by rw [hs, List.map_drop]; exact hv.drop hk)
  clear hs hu hv hlen
  go_wp2
  go_end0
  exact ⟨rfl, _, _, _, Nat.sub_le _ _, Hv.out, rfl⟩
/-- where a span stands -/
theorem spanNow_any (w : World) (r : Nat) (a b : Int) (hr : Blk w r 121 #[.int .i64 a, .int .i64 b]) :
    Calls Try.prog 90 #[.pointer (some ⟨r, 0, none⟩)] w fun e w' => e = .returned (.tuple #[.int .i64 ((spanL a b).headD 0), .bool (!(spanL a b).isEmpty)]) ∧ ∃ q, w.drewN q = w' := by
  have hc0 := hr.cell 0
  have hc1 := hr.cell 1
  by_cases hab : b ≤ a
  · have hs := Lib.hid (span_nil hab)
    have d1 : decide (b ≤ a) = true := decide_eq_true hab
    go_enter Try.func90, Try.ntmps90
    go_wp2
    go_quiet (fail)
    go_wp2
    go_ret2
    exact ⟨by rw [hs.out]; rfl, _, rfl⟩
  · have hs := Lib.hid (span_cons (Int.not_le.1 hab))
    have d1 : decide (b ≤ a) = false := decide_eq_false hab
    go_enter Try.func90, Try.ntmps90
    go_wp2
    go_quiet (fail)
    go_wp2
    go_ret2
    exact ⟨by rw [hs.out]; rfl, _, rfl⟩
/-- a span is sought -/
theorem spanSeek_any (w : World) (r : Nat) (a b x : Int) (hr : Blk w r 121 #[.int .i64 a, .int .i64 b]) :
    Calls Try.prog 91 #[.pointer (some ⟨r, 0, none⟩), .int .i64 x] w fun e w' => e = .returned (.tuple #[]) ∧ w' = w.setCell ⟨r, 0, none⟩ (.int .i64 (max a x)) := by
  have hc0 := hr.cell 0
  have hf0 := hr.frozen 0
  go_enter Try.func91, Try.ntmps91
  by_cases hax : a < x
  · have hm := Lib.hid (show max a x = x by omega)
    go_wp2
    go_end0
    exact ⟨rfl, by rw [hm.out]⟩
  · have hm := Lib.hid (show max a x = a by omega)
    go_wp2
    go_end0
    exact ⟨rfl, by rw [hm.out]⟩
end Go.Proofs.Ytamdejidkgnaeaa
