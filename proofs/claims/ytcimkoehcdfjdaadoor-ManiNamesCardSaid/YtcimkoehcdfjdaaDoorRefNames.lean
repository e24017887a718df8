/-
  The walks of the document's Name and Num (layer 25).
-/
import Derived.Lib.PathFns
import Derived.Test.YtcimkoehcdfjdaaDoorNames
namespace Go.Proofs.YtcimkoehcdfjdaaDoor
open Go.RowKit WireM
set_option linter.unusedVariables false

theorem mrName_any (w : World) (n : Int) (h0 : -9223372036854775808 ≤ n) (h1 : n ≤ 9223372036854775807) (hL : LaidOk w) :
    Calls Tryd.prog 9 #[.int .i64 n] w fun e w' => e = .returned (.string ⟨(nameB n).toArray⟩) ∧ Grow w w' := by
  by_cases h : n < 1
  · have d1 : decide (n < 1) = true := decide_eq_true h
    have hn : nameB n = [] := nameB_no (by omega)
    go_enter Tryd.func9, Tryd.ntmps9
    go_wp2
    go_ret
    exact ⟨by first | rfl | (rw [hn]; rfl), Grow.refl _⟩
  · have d1 : decide (n < 1) = false := decide_eq_false h
    by_cases h2 : 1099511627776 < n
    · have d2 : decide (1099511627776 < n) = true := decide_eq_true h2
      have hn : nameB n = [] := nameB_no (by omega)
      go_enter Tryd.func9, Tryd.ntmps9
      go_wp2
      go_ret
      exact ⟨by first | rfl | (rw [hn]; rfl), Grow.refl _⟩
    · have d2 : decide (1099511627776 < n) = false := decide_eq_false h2
      have hlen := Lib.itoa_length_le n h0 h1
      have hls : ¬ (9223372036854775807 < 2 + (Lib.itoa n).length) := by omega
      have hn : (({ data := #[115, 46] } : ByteArray) ++ { data := (Lib.itoa n).toArray }) = ⟨(nameB n).toArray⟩ := by
        rw [nameB, if_neg (by omega)]
        apply ByteArray.ext
        simp
      go_enter Tryd.func9, Tryd.ntmps9
      go_wp2_with (go_at_call 7; refine (Tryd.strconv_Itoa n h0 h1 _ hL.tab).mono ?_; rintro e w' ⟨rfl, k, os, rfl⟩)
      go_ret
      exact ⟨by rw [← hn]; rfl, sort_grow w k os⟩
theorem at_list (s : ByteArray) (k : Nat) (h : k < s.size) : s.data.toList[k]? = some s[k] := by
  rw [List.getElem?_eq_getElem (by rw [Array.length_toList]; exact h)]
  rfl
theorem refNum_no {l : List UInt8} (h : l.take 2 ≠ [115, 46] ∨ l[2]? = some 48 ∨ l.length < 3) : refNum l = (0, false) := by
  match l, h with
  | [], _ => rfl
  | [_], _ => rfl
  | [_, _], _ => rfl
  | a :: b :: c :: r, h =>
    rw [refNum, if_neg]
    rintro ⟨rfl, rfl, hc⟩
    rcases h with h | h | h
    · exact h rfl
    · exact hc (by simpa using h)
    · simp only [List.length_cons] at h
      omega
theorem refNum_yes {l : List UInt8} (h : l.take 2 = [115, 46]) (h2 : l[2]? ≠ some 48) (h3 : 3 ≤ l.length) : refNum l = match refAll 0 (l.drop 2) with | some n => if n ≤ 1099511627776 then ((n : Int), true) else (0, false) | none => (0, false) := by
  match l, h, h2, h3 with
  | a :: b :: c :: r, h, h2, _ =>
    have hab : a = 115 ∧ b = 46 := by simpa using h
    rw [refNum, if_pos ⟨hab.1, hab.2, fun e => h2 (by simp [e])⟩]
    rfl
set_option maxRecDepth 100000 in
set_option maxHeartbeats 2000000 in
theorem mrNum_any (w : World) (s : ByteArray) (hs : s.size ≤ 281474976710656) (v : Int) (ok : Bool) (hv : Hid ((v, ok) = refNum s.data.toList)) :
    Calls Tryd.prog 26 #[.string s] w fun e w' => e = .returned (.tuple #[.int .i64 v, .bool ok]) ∧ w = w' := by
  have hl : s.data.toList.length = s.size := Array.length_toList
  have hx : (s.extract 0 2).toList = s.data.toList.take 2 := by rw [Lib.toList_data]; simp [ByteArray.data_extract]
  have no : (s.data.toList.take 2 ≠ [115, 46] ∨ s.data.toList[2]? = some 48 ∨ s.data.toList.length < 3) → v = 0 ∧ ok = false := fun h => by
    have hv2 := hv.out
    rw [refNum_no h] at hv2
    injection hv2 with h1 h2
    exact ⟨h1, h2⟩
  by_cases h3 : s.size < 3
  · obtain ⟨rfl, rfl⟩ := no (Or.inr (Or.inr (by omega)))
    have d1 : decide (s.size < 3) = true := decide_eq_true h3
    have d2 : decide ((s.size : Int) < 3) = true := decide_eq_true (by omega)
    clear no hx
    go_enter Tryd.func26, Tryd.ntmps26
    go_wp2
    go_ret2
    exact ⟨rfl, rfl⟩
  · have h3' : ¬ ((s.size : Int) < 3) := by omega
    have c2 : (2 : Int) ≤ (s.size : Int) := by omega
    have c3 : (2 : Int) < (s.size : Int) := by omega
    by_cases hp : (s.extract 0 2).toList = [115, 46]
    · have hk2 := at_list s 2 (by omega)
      by_cases h0 : s[2].toNat = 48
      · obtain ⟨rfl, rfl⟩ := no (Or.inr (Or.inl (by rw [hk2]; congr 1; exact UInt8.toNat_inj.1 h0)))
        have h0' : ((s[2].toNat : Int) == 48) = true := by rw [h0]; rfl
        clear no hx hk2
        go_enter Tryd.func26, Tryd.ntmps26
        go_wp2
        go_ret2
        exact ⟨rfl, rfl⟩
      · have h0' : ((s[2].toNat : Int) == 48) = false := by rw [beq_eq_false_iff_ne]; omega
        have hy := hv.out
        rw [refNum_yes (by rw [← hx]; exact hp) (by rw [hk2]; intro e; injection e with e; exact h0 (by rw [e]; rfl)) (by omega)] at hy
        have Hy := Lib.hid hy
        clear no hx hk2 hy h0
        go_enter Tryd.func26, Tryd.ntmps26
        go_wp2
        go_loop [4, 5] (fun v4 v5 => ∃ k acc : Nat, 2 ≤ k ∧ k ≤ s.size ∧ v4 = .int .i64 (acc : Int) ∧ v5 = .int .i64 (k : Int) ∧ acc ≤ 10995116277769 ∧ Hid (refAll 0 (s.data.toList.drop 2) = refAll acc (s.data.toList.drop k))) (fun _ v5 => s.size - (intOf v5).toNat)
        case atStart => exact ⟨2, 0, by omega, by omega, rfl, rfl, by omega, rfl⟩
        case round =>
          obtain ⟨k, acc, hk2, hk, rfl, rfl, hacc, hr⟩ := hrel
          by_cases hlt : k < s.size
          · have hc := at_list s k hlt
            have hd : s.data.toList.drop k = s[k] :: s.data.toList.drop (k + 1) := by
              obtain ⟨p1, q1⟩ := List.getElem?_eq_some_iff.1 hc
              rw [List.drop_eq_getElem_cons p1, q1]
            have hstep : refAll acc (s.data.toList.drop k) = if s[k].toNat < 48 ∨ 57 < s[k].toNat ∨ 1099511627776 < acc then none else refAll (10 * acc + (s[k].toNat - 48)) (s.data.toList.drop (k + 1)) := by rw [hd, refAll]
            have Hstep := Lib.hid (hr.out.trans hstep)
            clear hc hd hstep hr
            by_cases h1 : s[k].toNat < 48
            · have d1 : decide ((s[k].toNat : Int) < 48) = true := decide_eq_true (by omega)
              have d1' : decide (s[k].toNat < 48) = true := decide_eq_true h1
              have hn : Hid (refAll 0 (s.data.toList.drop 2) = none) := Lib.hid (Hstep.out.trans (if_pos (Or.inl h1)))
              have hz := Hy.out
              rw [hn.out] at hz
              injection hz with hz1 hz2
              subst hz1 hz2
              clear Hstep Hy hn
              go_wp2
              go_ret2
              exact ⟨rfl, rfl⟩
            · have d1 : decide ((s[k].toNat : Int) < 48) = false := decide_eq_false (by omega)
              have d1' : decide (s[k].toNat < 48) = false := decide_eq_false h1
              by_cases h2 : 57 < s[k].toNat
              · have d2 : decide ((57 : Int) < (s[k].toNat : Int)) = true := decide_eq_true (by omega)
                have d2' : decide (57 < s[k].toNat) = true := decide_eq_true h2
                have hn : Hid (refAll 0 (s.data.toList.drop 2) = none) := Lib.hid (Hstep.out.trans (if_pos (Or.inr (Or.inl h2))))
                have hz := Hy.out
                rw [hn.out] at hz
                injection hz with hz1 hz2
                subst hz1 hz2
                clear Hstep Hy hn
                go_wp2
                go_ret2
                exact ⟨rfl, rfl⟩
              · have d2 : decide ((57 : Int) < (s[k].toNat : Int)) = false := decide_eq_false (by omega)
                have d2' : decide (57 < s[k].toNat) = false := decide_eq_false h2
                by_cases h3 : 1099511627776 < acc
                · have d3 : decide ((1099511627776 : Int) < (acc : Int)) = true := decide_eq_true (by omega)
                  have d3' : decide (1099511627776 < acc) = true := decide_eq_true h3
                  have hn : Hid (refAll 0 (s.data.toList.drop 2) = none) := Lib.hid (Hstep.out.trans (if_pos (Or.inr (Or.inr h3))))
                  have hz := Hy.out
                  rw [hn.out] at hz
                  injection hz with hz1 hz2
                  subst hz1 hz2
                  clear Hstep Hy hn
                  go_wp2
                  go_ret2
                  exact ⟨rfl, rfl⟩
                · have d3 : decide ((1099511627776 : Int) < (acc : Int)) = false := decide_eq_false (by omega)
                  have d3' : decide (1099511627776 < acc) = false := decide_eq_false h3
                  have Hn := Lib.hid (Hstep.out.trans (if_neg (by omega)))
                  clear Hstep
                  go_wp2
                  go_round
                  case rel => exact ⟨k + 1, 10 * acc + (s[k].toNat - 48), by omega, by omega, by go_num, by go_num, by omega, Hn⟩
                  case measure => simp [intOf]; omega
          · obtain rfl : k = s.size := by omega
            have hn : refAll 0 (s.data.toList.drop 2) = some acc := by rw [hr.out, List.drop_eq_nil_of_le (by omega)]; rfl
            have hz := Hy.out
            rw [hn] at hz
            simp only at hz
            by_cases h3 : acc ≤ 1099511627776
            · rw [if_pos h3] at hz
              injection hz with hz1 hz2
              subst hz1 hz2
              have d3 : decide ((1099511627776 : Int) < (acc : Int)) = false := decide_eq_false (by omega)
              have d3' : decide (1099511627776 < acc) = false := decide_eq_false (by omega)
              clear hn hr
              go_wp2
              go_ret2
              exact ⟨rfl, rfl⟩
            · rw [if_neg h3] at hz
              injection hz with hz1 hz2
              subst hz1 hz2
              have d3 : decide ((1099511627776 : Int) < (acc : Int)) = true := decide_eq_true (by omega)
              have d3' : decide (1099511627776 < acc) = true := decide_eq_true (by omega)
              clear hn hr
              go_wp2
              go_ret2
              exact ⟨rfl, rfl⟩
    · obtain ⟨rfl, rfl⟩ := no (Or.inl (by rw [← hx]; exact hp))
      clear no hx
      go_enter Tryd.func26, Tryd.ntmps26
      go_wp2
      go_ret2
      exact ⟨rfl, rfl⟩
end Go.Proofs.YtcimkoehcdfjdaaDoor
