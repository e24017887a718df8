/-
  The walks of mani's Now, Next, shard, Name and Num.
-/
import Derived.Lib.ItoaLen
import Derived.Test.YtcimkoehcdfjdaaDoorShelf
import Derived.Test.YtcimkoehcdfjdaaDoorNameMath
import Derived.Test.YtcimkoehcdfjdaaDoorManiKit
namespace Go.Proofs.YtcimkoehcdfjdaaDoor
open Go.RowKit WireM
set_option linter.unusedVariables false

/-- the library's variables hold what they are laid with -/
structure LaidOk (w : World) : Prop where
  tab : Lib.TabIs Tryd.prog w "internal/strconv.uint64pow10" .u64 Lib.pow10Tab
  syn : ∃ tp p, w.var? Tryd.prog "strconv.ErrSyntax" = some #[.iface tp p]
  rng : ∃ tp p, w.var? Tryd.prog "strconv.ErrRange" = some #[.iface tp p]
theorem var_grow {P : Program} {w w' : World} {s : String} {cs : Array Value} (h : w.var? P s = some cs) (hG : Grow w w') : w'.var? P s = some cs := by
  unfold World.var? at h ⊢
  cases hg : P.globalNamed s with
  | none => rw [hg] at h; cases h
  | some g =>
    rw [hg, Option.bind_some] at h
    rw [Option.bind_some]
    cases hb : w.heap[g]? with
    | none => rw [hb] at h; cases h
    | some o =>
      rw [hG.block g (Array.getElem?_eq_some_iff.1 hb).1]
      exact h
theorem LaidOk.grow {w w' : World} (h : LaidOk w) (hG : Grow w w') : LaidOk w' := by
  obtain ⟨h1, ⟨tp, p, h2⟩, ⟨tq, q, h3⟩⟩ := h
  exact ⟨var_grow h1 hG, ⟨tp, p, var_grow h2 hG⟩, ⟨tq, q, var_grow h3 hG⟩⟩

theorem sort_grow (w : World) (k : Nat) (os : Array Obj) : Grow w (Sort.grow (w.drewN k) os) :=
  ⟨rfl, rfl, rfl, by simp [Sort.grow], fun j hj => by
    show (w.heap ++ os)[j]? = w.heap[j]?
    rw [Array.getElem?_append_left hj]⟩
theorem Now_any (w : World) : Calls Tryd.prog 19 #[] w fun e w' => e = .returned (.string ⟨#[109]⟩) ∧ w = w' := by
  go_enter Tryd.func19, Tryd.ntmps19
  go_wp2
  go_ret
  exact ⟨rfl, rfl⟩
theorem Next_any (w : World) : Calls Tryd.prog 20 #[] w fun e w' => e = .returned (.string ⟨#[109, 46, 110, 101, 119]⟩) ∧ w = w' := by
  go_enter Tryd.func20, Tryd.ntmps20
  go_wp2
  go_ret
  exact ⟨rfl, rfl⟩
theorem shard_any (w : World) : Calls Tryd.prog 25 #[] w fun e w' => e = .returned (.string ⟨#[115, 46]⟩) ∧ w = w' := by
  go_enter Tryd.func25, Tryd.ntmps25
  go_wp2
  go_ret
  exact ⟨rfl, rfl⟩
theorem Name_any (w : World) (n : Int) (h0 : -9223372036854775808 ≤ n) (h1 : n ≤ 9223372036854775807) (hL : LaidOk w) :
    Calls Tryd.prog 8 #[.int .i64 n] w fun e w' => e = .returned (.string ⟨(nameB n).toArray⟩) ∧ Grow w w' := by
  by_cases h : n < 1
  · have d1 : decide (n < 1) = true := decide_eq_true h
    have hn : nameB n = [] := nameB_no (by omega)
    go_enter Tryd.func8, Tryd.ntmps8
    go_wp2
    go_ret
    exact ⟨by first | rfl | (rw [hn]; rfl), Grow.refl _⟩
  · have d1 : decide (n < 1) = false := decide_eq_false h
    by_cases h2 : 1099511627776 < n
    · have d2 : decide (1099511627776 < n) = true := decide_eq_true h2
      have hn : nameB n = [] := nameB_no (by omega)
      go_enter Tryd.func8, Tryd.ntmps8
      go_wp2
      go_ret
      exact ⟨by first | rfl | (rw [hn]; rfl), Grow.refl _⟩
    · have d2 : decide (1099511627776 < n) = false := decide_eq_false h2
      have hlen := Lib.itoa_length_le n h0 h1
      have hls : ¬ (9223372036854775807 < 2 + (Lib.itoa n).length) := by omega
      have hn : (({ data := #[115, 46] } : ByteArray) ++ { data := (Lib.itoa n).toArray }) = ⟨(nameB n).toArray⟩ := by
        rw [nameB, if_neg (by omega)]
        apply ByteArray.ext
        simp
      go_enter Tryd.func8, Tryd.ntmps8
      go_wp2_with (first | (go_at_call 25; refine (shard_any _).mono ?_; rintro e w' ⟨rfl, rfl⟩) | (go_at_call 7; refine (Tryd.strconv_Itoa n h0 h1 _ hL.tab).mono ?_; rintro e w' ⟨rfl, k, os, rfl⟩))
      go_ret
      exact ⟨by rw [← hn]; rfl, sort_grow w k os⟩

theorem trim_le (s p : List UInt8) : (Lib.trimPrefix s p).length ≤ s.length := by
  unfold Lib.trimPrefix
  split
  · simp
  · exact Nat.le_refl _
/-- what Atoi tells of digits -/
def AtoiTo (w : World) (l : List UInt8) (e : Ending) (w' : World) : Prop :=
  ∃ (v : Int) (ev : Value), e = .returned (.tuple #[.int .i64 v, ev]) ∧ Grow w w' ∧ (-9223372036854775808 ≤ v ∧ v ≤ 9223372036854775807) ∧ ((Lib.atoiAll l = .ok v ∧ ev = .nilIface) ∨ ((∀ x, Lib.atoiAll l ≠ .ok x) ∧ ∃ t p, ev = .iface t p))
theorem Atoi_any (w : World) (s : ByteArray) (hs : s.size ≤ 281474976710656) (hL : LaidOk w) : Calls Tryd.prog 45 #[.string s] w (AtoiTo w s.data.toList) := by
  obtain ⟨a, ha⟩ : ∃ a, Lib.atoiAll s.data.toList = a := ⟨_, rfl⟩
  cases a with
  | ok v =>
    refine (Tryd.strconv_Atoi_ok s (by omega) v ha w).mono ?_
    rintro e w' ⟨rfl, hw⟩
    refine ⟨v, _, rfl, ?_, Lib.atoiAll_bounds ha, Or.inl ⟨ha, rfl⟩⟩
    rcases hw with rfl | ⟨t, rfl⟩
    · exact Grow.refl _
    · exact Lib.bytesWorld_below _ _ _
  | range =>
    obtain ⟨tp, p, hv⟩ := hL.rng
    refine (Tryd.strconv_Atoi_range_var s hs ha tp p w hv).mono ?_
    rintro e w' ⟨N, rfl, -, -, hb⟩
    exact ⟨_, _, rfl, hb, Lib.atoiSat_bounds _, Or.inr ⟨fun x h => by rw [ha] at h; (cases h), _, _, rfl⟩⟩
  | _ =>
    obtain ⟨tp, p, hv⟩ := hL.syn
    refine (Tryd.strconv_Atoi_syntax_var s hs ha tp p w hv).mono ?_
    rintro e w' ⟨N, rfl, -, -, hb⟩
    exact ⟨0, _, rfl, hb, by omega, Or.inr ⟨fun x h => by rw [ha] at h; (cases h), _, _, rfl⟩⟩
theorem CutPrefix_any (w : World) (s : ByteArray) : Calls Tryd.prog 44 #[.string s, .string ⟨#[115, 46]⟩] w fun e w' => e = .returned (.tuple #[.string ⟨(Lib.trimPrefix s.data.toList [115, 46]).toArray⟩, .bool (Lib.hasPrefix s.data.toList [115, 46])]) ∧ w = w' :=
  (Tryd.strings_CutPrefix s _ w).mono fun e w' h => ⟨h.1, h.2.symm⟩
theorem Num_any (w : World) (s : ByteArray) (hs : s.size ≤ 281474976710656) (hL : LaidOk w) (v : Int) (ok : Bool) (hv : Hid ((v, ok) = numB s.data.toList)) :
    Calls Tryd.prog 18 #[.string s] w fun e w' => e = .returned (.tuple #[.int .i64 v, .bool ok]) ∧ Grow w w' := by
  have HC := Lib.hid (CutPrefix_any w s)
  obtain ⟨D, hD⟩ : ∃ D, D = Lib.trimPrefix s.data.toList [115, 46] := ⟨_, rfl⟩
  have hDl : D.length ≤ s.size := by rw [hD]; exact trim_le _ _
  have HA := Lib.hid (Atoi_any w ⟨D.toArray⟩ (by show D.toArray.size ≤ _; simp; omega) hL)
  obtain ⟨b, hb⟩ : ∃ b, b = Lib.hasPrefix s.data.toList [115, 46] := ⟨_, rfl⟩
  rw [← hD, ← hb] at HC
  have HD := Lib.hid hD
  have Hb := Lib.hid hb
  clear hD hb
  cases b with
  | false =>
    have e0 : numB s.data.toList = (0, false) := by unfold numB; rw [← Hb.out]
    have hv2 := hv.out
    rw [e0] at hv2
    injection hv2 with h1 h2
    subst h1 h2
    go_enter Tryd.func18, Tryd.ntmps18
    go_wp2_with (first | (go_at_call 25; refine (shard_any _).mono ?_; rintro e w' ⟨rfl, rfl⟩) | (go_at_call 44; refine HC.out.mono ?_; rintro e w' ⟨rfl, rfl⟩) | (go_at_call 45; refine HA.out.mono ?_; rintro e w1 ⟨x, ev, rfl, hG, hx, hcase⟩))
    go_ret2
    exact ⟨rfl, hG⟩
  | true =>
    have HA2 : Hid (Calls Tryd.prog 45 #[.string ⟨D.toArray⟩] w (AtoiTo w D)) := HA
    clear HA
    obtain ⟨a, ha⟩ : ∃ a, Lib.atoiAll D = a := ⟨_, rfl⟩
    have Ha := Lib.hid ha
    clear ha
    by_cases hok : ∃ x, a = .ok x
    · obtain ⟨x, rfl⟩ := hok
      have HA : Hid (Calls Tryd.prog 45 #[.string ⟨D.toArray⟩] w fun e w' => e = .returned (.tuple #[.int .i64 x, .nilIface]) ∧ Grow w w' ∧ (-9223372036854775808 ≤ x ∧ x ≤ 9223372036854775807)) := HA2.out.mono fun e w' ⟨y, ev, h1, h2, h3, h4⟩ => by
        rcases h4 with ⟨h5, rfl⟩ | ⟨h5, -⟩
        · rw [Ha.out] at h5
          injection h5 with h5
          subst h5
          exact ⟨h1, h2, h3⟩
        · exact absurd Ha.out (h5 x)
      have e0 : numB s.data.toList = if nameB x = s.data.toList then (x, true) else (0, false) := by
        unfold numB
        rw [← Hb.out, ← HD.out, Ha.out]
      by_cases hn : nameB x = s.data.toList
      · have hv2 := hv.out
        rw [e0, if_pos hn] at hv2
        injection hv2 with h1 h2
        subst h1 h2
        clear hv e0 HA2
        go_enter Tryd.func18, Tryd.ntmps18
        go_wp2_with (first | (go_at_call 25; refine (shard_any _).mono ?_; rintro e w' ⟨rfl, rfl⟩) | (go_at_call 44; refine HC.out.mono ?_; rintro e w' ⟨rfl, rfl⟩) | (go_at_call 45; refine HA.out.mono ?_; rintro e w1 ⟨rfl, hG, hx1, hx2⟩))
        refine (Name_any w1 v hx1 hx2 (hL.grow hG)).mono ?_
        rintro e w2 ⟨rfl, hG2⟩
        go_wp2
        go_ret2
        exact ⟨rfl, Below.trans hG (Below.mono hG2 hG.size)⟩
      · have hv2 := hv.out
        rw [e0, if_neg hn] at hv2
        injection hv2 with h1 h2
        subst h1 h2
        have hne : (nameB x == s.toList) = false := by rw [beq_eq_false_iff_ne, Lib.toList_data]; exact hn
        clear hv e0 HA2
        go_enter Tryd.func18, Tryd.ntmps18
        go_wp2_with (first | (go_at_call 25; refine (shard_any _).mono ?_; rintro e w' ⟨rfl, rfl⟩) | (go_at_call 44; refine HC.out.mono ?_; rintro e w' ⟨rfl, rfl⟩) | (go_at_call 45; refine HA.out.mono ?_; rintro e w1 ⟨rfl, hG, hx1, hx2⟩))
        refine (Name_any w1 x hx1 hx2 (hL.grow hG)).mono ?_
        rintro e w2 ⟨rfl, hG2⟩
        go_wp2
        go_ret2
        exact ⟨rfl, Below.trans hG (Below.mono hG2 hG.size)⟩
    · have HA : Hid (Calls Tryd.prog 45 #[.string ⟨D.toArray⟩] w fun e w' => ∃ (x : Int) (t : TypeId) (p : Value), e = .returned (.tuple #[.int .i64 x, .iface t p]) ∧ Grow w w') := HA2.out.mono fun e w' ⟨y, ev, h1, h2, h3, h4⟩ => by
        rcases h4 with ⟨h5, rfl⟩ | ⟨-, t, p, rfl⟩
        · rw [Ha.out] at h5
          exact absurd ⟨y, h5⟩ hok
        · exact ⟨y, t, p, h1, h2⟩
      have e0 : numB s.data.toList = (0, false) := by
        unfold numB
        rw [← Hb.out, ← HD.out, Ha.out]
        cases a with
        | ok x => exact absurd ⟨x, rfl⟩ hok
        | range => rfl
        | _ => rfl
      have hv2 := hv.out
      rw [e0] at hv2
      injection hv2 with h1 h2
      subst h1 h2
      clear hv e0 HA2 hok
      go_enter Tryd.func18, Tryd.ntmps18
      go_wp2_with (first | (go_at_call 25; refine (shard_any _).mono ?_; rintro e w' ⟨rfl, rfl⟩) | (go_at_call 44; refine HC.out.mono ?_; rintro e w' ⟨rfl, rfl⟩) | (go_at_call 45; refine HA.out.mono ?_; rintro e w1 ⟨x, t, p, rfl, hG⟩))
      go_ret2
      exact ⟨rfl, hG⟩
end Go.Proofs.YtcimkoehcdfjdaaDoor
