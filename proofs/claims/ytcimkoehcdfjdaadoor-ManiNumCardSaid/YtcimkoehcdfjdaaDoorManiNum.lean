/-
  The walk of mudlarklaw25.ManiNum: a shard's name tells its number, and no other one has it.
-/
import Derived.Test.YtcimkoehcdfjdaaDoorManiUse
namespace Go.Proofs.YtcimkoehcdfjdaaDoor
open Go.RowKit WireM
set_option linter.unusedVariables false

set_option maxRecDepth 100000 in
set_option maxHeartbeats 4000000 in
theorem mnum_walk (w : World) (num other : Int) (name : ByteArray) (hn1 : -9223372036854775808 ≤ num) (hn2 : num ≤ 9223372036854775807) (ho1 : -9223372036854775808 ≤ other) (ho2 : other ≤ 9223372036854775807) (hnm : name.size ≤ 281474976710656) (hL : LaidOk w) :
    Calls Tryd.prog 5 #[.int .i64 num, .int .i64 other, .string name] w fun e w' => e = .returned (.bool true) ∧ Below w.heap.size w w' := by
  go_enter Tryd.func5, Tryd.ntmps5
  go_wp2_with fail
  refine (awake25_any w hL).mono ?_
  rintro e w1 ⟨rfl, hg1⟩
  have HG1 := Lib.hid hg1
  clear hg1
  by_cases h : 1 ≤ num ∧ num ≤ 1099511627776
  · have d1 : decide (1 ≤ num) = true := decide_eq_true h.1
    have d2 : decide (num ≤ 1099511627776) = true := decide_eq_true h.2
    have hl := nameB_len num
    have d3 : decide ((30 : Int) < ((nameB num).length : Int)) = false := decide_eq_false (by omega)
    have Hs := Lib.hid (numB_name h.1 h.2)
    have HN := Lib.hid (Name_any w1 num hn1 hn2 (hL.grow HG1.out))
    go_wp2_with fail
    refine HN.out.mono ?_
    rintro e w2 ⟨rfl, hg2⟩
    have HG2 := Lib.hid (HG1.out.trans hg2)
    clear hg2 HN
    go_wp2_with fail
    refine (Num_any w2 ⟨(nameB num).toArray⟩ (show (nameB num).toArray.size ≤ _ by simp; omega) (hL.grow HG2.out) num true Hs.out.symm).mono ?_
    rintro e w3 ⟨rfl, hg3⟩
    have HG3 := Lib.hid (HG2.out.trans hg3)
    clear hg3
    by_cases ho : num = other
    · subst ho
      have HG := HG3
      obtain ⟨⟨m, is⟩, hq⟩ : ∃ q, numB name.data.toList = q := ⟨_, rfl⟩
      have Hq := Lib.hid hq
      cases is with
      | true =>
        obtain ⟨hm1, hm2, hm3⟩ := numB_true hq
        have hw1 : -9223372036854775808 ≤ m := by omega
        have hw2 : m ≤ 9223372036854775807 := by omega
        clear hq
        go_wp2_with fail
        refine (Num_any _ name hnm (hL.grow HG.out) m true Hq.out.symm).mono ?_
        rintro e w6 ⟨rfl, hg6⟩
        have HG6 := Lib.hid (HG.out.trans hg6)
        clear hg6
        go_wp2_with fail
        refine (Now_any _).mono ?_
        rintro e w7 ⟨rfl, rfl⟩
        go_wp2_with fail
        refine (Num_any _ ⟨#[109]⟩ (by decide) (hL.grow HG6.out) 0 false numB_m.symm).mono ?_
        rintro e w7 ⟨rfl, hg7⟩
        have HG7 := Lib.hid (HG6.out.trans hg7)
        clear hg7
        go_wp2_with fail
        refine (Next_any _).mono ?_
        rintro e w8 ⟨rfl, rfl⟩
        go_wp2_with fail
        refine (Num_any _ ⟨#[109, 46, 110, 101, 119]⟩ (by decide) (hL.grow HG7.out) 0 false numB_mnew.symm).mono ?_
        rintro e w8 ⟨rfl, hg8⟩
        have HG8 := Lib.hid (HG7.out.trans hg8)
        clear hg8
        go_wp2_with fail
        refine (Name_any _ m hw1 hw2 (hL.grow HG8.out)).mono ?_
        rintro e w9 ⟨rfl, hg9⟩
        have HG9 := Lib.hid (HG8.out.trans hg9)
        have hme : (nameB m == name.toList) = true := by rw [beq_iff_eq, Lib.toList_data]; exact hm1
        go_wp2_with (first | (go_at_call 19; refine (Now_any _).mono ?_; rintro e w' ⟨rfl, rfl⟩) | (go_at_call 20; refine (Next_any _).mono ?_; rintro e w' ⟨rfl, rfl⟩))
        go_ret
        exact ⟨rfl, HG9.out⟩
      | false =>
        obtain rfl : m = 0 := numB_false hq
        clear hq
        go_wp2_with fail
        refine (Num_any _ name hnm (hL.grow HG.out) 0 false Hq.out.symm).mono ?_
        rintro e w6 ⟨rfl, hg6⟩
        have HG6 := Lib.hid (HG.out.trans hg6)
        clear hg6
        go_wp2_with fail
        refine (Now_any _).mono ?_
        rintro e w7 ⟨rfl, rfl⟩
        go_wp2_with fail
        refine (Num_any _ ⟨#[109]⟩ (by decide) (hL.grow HG6.out) 0 false numB_m.symm).mono ?_
        rintro e w7 ⟨rfl, hg7⟩
        have HG7 := Lib.hid (HG6.out.trans hg7)
        clear hg7
        go_wp2_with fail
        refine (Next_any _).mono ?_
        rintro e w8 ⟨rfl, rfl⟩
        go_wp2_with fail
        refine (Num_any _ ⟨#[109, 46, 110, 101, 119]⟩ (by decide) (hL.grow HG7.out) 0 false numB_mnew.symm).mono ?_
        rintro e w8 ⟨rfl, hg8⟩
        have HG8 := Lib.hid (HG7.out.trans hg8)
        clear hg8
        go_wp2_with (first | (go_at_call 19; refine (Now_any _).mono ?_; rintro e w' ⟨rfl, rfl⟩) | (go_at_call 20; refine (Next_any _).mono ?_; rintro e w' ⟨rfl, rfl⟩))
        go_ret
        exact ⟨rfl, HG8.out⟩
    · have hne : (num == other) = false := by rw [beq_eq_false_iff_ne]; exact ho
      have hnn : (nameB other == nameB num) = false := by rw [beq_eq_false_iff_ne]; exact fun e => ho (nameB_one h.1 h.2 e).symm
      go_wp2_with fail
      refine (Name_any w3 other ho1 ho2 (hL.grow HG3.out)).mono ?_
      rintro e w4 ⟨rfl, hg4⟩
      have HG := Lib.hid (HG3.out.trans hg4)
      clear hg4
      obtain ⟨⟨m, is⟩, hq⟩ : ∃ q, numB name.data.toList = q := ⟨_, rfl⟩
      have Hq := Lib.hid hq
      cases is with
      | true =>
        obtain ⟨hm1, hm2, hm3⟩ := numB_true hq
        have hw1 : -9223372036854775808 ≤ m := by omega
        have hw2 : m ≤ 9223372036854775807 := by omega
        clear hq
        go_wp2_with fail
        refine (Num_any _ name hnm (hL.grow HG.out) m true Hq.out.symm).mono ?_
        rintro e w6 ⟨rfl, hg6⟩
        have HG6 := Lib.hid (HG.out.trans hg6)
        clear hg6
        go_wp2_with fail
        refine (Now_any _).mono ?_
        rintro e w7 ⟨rfl, rfl⟩
        go_wp2_with fail
        refine (Num_any _ ⟨#[109]⟩ (by decide) (hL.grow HG6.out) 0 false numB_m.symm).mono ?_
        rintro e w7 ⟨rfl, hg7⟩
        have HG7 := Lib.hid (HG6.out.trans hg7)
        clear hg7
        go_wp2_with fail
        refine (Next_any _).mono ?_
        rintro e w8 ⟨rfl, rfl⟩
        go_wp2_with fail
        refine (Num_any _ ⟨#[109, 46, 110, 101, 119]⟩ (by decide) (hL.grow HG7.out) 0 false numB_mnew.symm).mono ?_
        rintro e w8 ⟨rfl, hg8⟩
        have HG8 := Lib.hid (HG7.out.trans hg8)
        clear hg8
        go_wp2_with fail
        refine (Name_any _ m hw1 hw2 (hL.grow HG8.out)).mono ?_
        rintro e w9 ⟨rfl, hg9⟩
        have HG9 := Lib.hid (HG8.out.trans hg9)
        have hme : (nameB m == name.toList) = true := by rw [beq_iff_eq, Lib.toList_data]; exact hm1
        go_wp2_with (first | (go_at_call 19; refine (Now_any _).mono ?_; rintro e w' ⟨rfl, rfl⟩) | (go_at_call 20; refine (Next_any _).mono ?_; rintro e w' ⟨rfl, rfl⟩))
        go_ret
        exact ⟨rfl, HG9.out⟩
      | false =>
        obtain rfl : m = 0 := numB_false hq
        clear hq
        go_wp2_with fail
        refine (Num_any _ name hnm (hL.grow HG.out) 0 false Hq.out.symm).mono ?_
        rintro e w6 ⟨rfl, hg6⟩
        have HG6 := Lib.hid (HG.out.trans hg6)
        clear hg6
        go_wp2_with fail
        refine (Now_any _).mono ?_
        rintro e w7 ⟨rfl, rfl⟩
        go_wp2_with fail
        refine (Num_any _ ⟨#[109]⟩ (by decide) (hL.grow HG6.out) 0 false numB_m.symm).mono ?_
        rintro e w7 ⟨rfl, hg7⟩
        have HG7 := Lib.hid (HG6.out.trans hg7)
        clear hg7
        go_wp2_with fail
        refine (Next_any _).mono ?_
        rintro e w8 ⟨rfl, rfl⟩
        go_wp2_with fail
        refine (Num_any _ ⟨#[109, 46, 110, 101, 119]⟩ (by decide) (hL.grow HG7.out) 0 false numB_mnew.symm).mono ?_
        rintro e w8 ⟨rfl, hg8⟩
        have HG8 := Lib.hid (HG7.out.trans hg8)
        clear hg8
        go_wp2_with (first | (go_at_call 19; refine (Now_any _).mono ?_; rintro e w' ⟨rfl, rfl⟩) | (go_at_call 20; refine (Next_any _).mono ?_; rintro e w' ⟨rfl, rfl⟩))
        go_ret
        exact ⟨rfl, HG8.out⟩
  · have d1 : (decide (1 ≤ num) && decide (num ≤ 1099511627776)) = false := by rw [← Bool.not_eq_true]; intro e; simp at e; exact h e
    have Hs := Lib.hid numB_nil
    have HN0 := Name_any w1 num hn1 hn2 (hL.grow HG1.out)
    rw [nameB_no h] at HN0
    have HN := Lib.hid HN0
    clear HN0
    go_wp2_with fail
    refine HN.out.mono ?_
    rintro e w2 ⟨rfl, hg2⟩
    have HG2 := Lib.hid (HG1.out.trans hg2)
    clear hg2 HN
    go_wp2_with fail
    refine (Num_any w2 ⟨#[]⟩ (by decide) (hL.grow HG2.out) 0 false Hs.out.symm).mono ?_
    rintro e w3 ⟨rfl, hg3⟩
    have HG3 := Lib.hid (HG2.out.trans hg3)
    clear hg3
    by_cases h1 : 1 ≤ num
    · have c1 : decide (1 ≤ num) = true := decide_eq_true h1
      have c2 : decide (num ≤ 1099511627776) = false := decide_eq_false (fun e => h ⟨h1, e⟩)
      by_cases ho : num = other
      · subst ho
        have HG := HG3
        obtain ⟨⟨m, is⟩, hq⟩ : ∃ q, numB name.data.toList = q := ⟨_, rfl⟩
        have Hq := Lib.hid hq
        cases is with
        | true =>
          obtain ⟨hm1, hm2, hm3⟩ := numB_true hq
          have hw1 : -9223372036854775808 ≤ m := by omega
          have hw2 : m ≤ 9223372036854775807 := by omega
          clear hq
          go_wp2_with fail
          refine (Num_any _ name hnm (hL.grow HG.out) m true Hq.out.symm).mono ?_
          rintro e w6 ⟨rfl, hg6⟩
          have HG6 := Lib.hid (HG.out.trans hg6)
          clear hg6
          go_wp2_with fail
          refine (Now_any _).mono ?_
          rintro e w7 ⟨rfl, rfl⟩
          go_wp2_with fail
          refine (Num_any _ ⟨#[109]⟩ (by decide) (hL.grow HG6.out) 0 false numB_m.symm).mono ?_
          rintro e w7 ⟨rfl, hg7⟩
          have HG7 := Lib.hid (HG6.out.trans hg7)
          clear hg7
          go_wp2_with fail
          refine (Next_any _).mono ?_
          rintro e w8 ⟨rfl, rfl⟩
          go_wp2_with fail
          refine (Num_any _ ⟨#[109, 46, 110, 101, 119]⟩ (by decide) (hL.grow HG7.out) 0 false numB_mnew.symm).mono ?_
          rintro e w8 ⟨rfl, hg8⟩
          have HG8 := Lib.hid (HG7.out.trans hg8)
          clear hg8
          go_wp2_with fail
          refine (Name_any _ m hw1 hw2 (hL.grow HG8.out)).mono ?_
          rintro e w9 ⟨rfl, hg9⟩
          have HG9 := Lib.hid (HG8.out.trans hg9)
          have hme : (nameB m == name.toList) = true := by rw [beq_iff_eq, Lib.toList_data]; exact hm1
          go_wp2_with (first | (go_at_call 19; refine (Now_any _).mono ?_; rintro e w' ⟨rfl, rfl⟩) | (go_at_call 20; refine (Next_any _).mono ?_; rintro e w' ⟨rfl, rfl⟩))
          go_ret
          exact ⟨rfl, HG9.out⟩
        | false =>
          obtain rfl : m = 0 := numB_false hq
          clear hq
          go_wp2_with fail
          refine (Num_any _ name hnm (hL.grow HG.out) 0 false Hq.out.symm).mono ?_
          rintro e w6 ⟨rfl, hg6⟩
          have HG6 := Lib.hid (HG.out.trans hg6)
          clear hg6
          go_wp2_with fail
          refine (Now_any _).mono ?_
          rintro e w7 ⟨rfl, rfl⟩
          go_wp2_with fail
          refine (Num_any _ ⟨#[109]⟩ (by decide) (hL.grow HG6.out) 0 false numB_m.symm).mono ?_
          rintro e w7 ⟨rfl, hg7⟩
          have HG7 := Lib.hid (HG6.out.trans hg7)
          clear hg7
          go_wp2_with fail
          refine (Next_any _).mono ?_
          rintro e w8 ⟨rfl, rfl⟩
          go_wp2_with fail
          refine (Num_any _ ⟨#[109, 46, 110, 101, 119]⟩ (by decide) (hL.grow HG7.out) 0 false numB_mnew.symm).mono ?_
          rintro e w8 ⟨rfl, hg8⟩
          have HG8 := Lib.hid (HG7.out.trans hg8)
          clear hg8
          go_wp2_with (first | (go_at_call 19; refine (Now_any _).mono ?_; rintro e w' ⟨rfl, rfl⟩) | (go_at_call 20; refine (Next_any _).mono ?_; rintro e w' ⟨rfl, rfl⟩))
          go_ret
          exact ⟨rfl, HG8.out⟩
      · have hne : (num == other) = false := by rw [beq_eq_false_iff_ne]; exact ho
        have HG := HG3
        obtain ⟨⟨m, is⟩, hq⟩ : ∃ q, numB name.data.toList = q := ⟨_, rfl⟩
        have Hq := Lib.hid hq
        cases is with
        | true =>
          obtain ⟨hm1, hm2, hm3⟩ := numB_true hq
          have hw1 : -9223372036854775808 ≤ m := by omega
          have hw2 : m ≤ 9223372036854775807 := by omega
          clear hq
          go_wp2_with fail
          refine (Num_any _ name hnm (hL.grow HG.out) m true Hq.out.symm).mono ?_
          rintro e w6 ⟨rfl, hg6⟩
          have HG6 := Lib.hid (HG.out.trans hg6)
          clear hg6
          go_wp2_with fail
          refine (Now_any _).mono ?_
          rintro e w7 ⟨rfl, rfl⟩
          go_wp2_with fail
          refine (Num_any _ ⟨#[109]⟩ (by decide) (hL.grow HG6.out) 0 false numB_m.symm).mono ?_
          rintro e w7 ⟨rfl, hg7⟩
          have HG7 := Lib.hid (HG6.out.trans hg7)
          clear hg7
          go_wp2_with fail
          refine (Next_any _).mono ?_
          rintro e w8 ⟨rfl, rfl⟩
          go_wp2_with fail
          refine (Num_any _ ⟨#[109, 46, 110, 101, 119]⟩ (by decide) (hL.grow HG7.out) 0 false numB_mnew.symm).mono ?_
          rintro e w8 ⟨rfl, hg8⟩
          have HG8 := Lib.hid (HG7.out.trans hg8)
          clear hg8
          go_wp2_with fail
          refine (Name_any _ m hw1 hw2 (hL.grow HG8.out)).mono ?_
          rintro e w9 ⟨rfl, hg9⟩
          have HG9 := Lib.hid (HG8.out.trans hg9)
          have hme : (nameB m == name.toList) = true := by rw [beq_iff_eq, Lib.toList_data]; exact hm1
          go_wp2_with (first | (go_at_call 19; refine (Now_any _).mono ?_; rintro e w' ⟨rfl, rfl⟩) | (go_at_call 20; refine (Next_any _).mono ?_; rintro e w' ⟨rfl, rfl⟩))
          go_ret
          exact ⟨rfl, HG9.out⟩
        | false =>
          obtain rfl : m = 0 := numB_false hq
          clear hq
          go_wp2_with fail
          refine (Num_any _ name hnm (hL.grow HG.out) 0 false Hq.out.symm).mono ?_
          rintro e w6 ⟨rfl, hg6⟩
          have HG6 := Lib.hid (HG.out.trans hg6)
          clear hg6
          go_wp2_with fail
          refine (Now_any _).mono ?_
          rintro e w7 ⟨rfl, rfl⟩
          go_wp2_with fail
          refine (Num_any _ ⟨#[109]⟩ (by decide) (hL.grow HG6.out) 0 false numB_m.symm).mono ?_
          rintro e w7 ⟨rfl, hg7⟩
          have HG7 := Lib.hid (HG6.out.trans hg7)
          clear hg7
          go_wp2_with fail
          refine (Next_any _).mono ?_
          rintro e w8 ⟨rfl, rfl⟩
          go_wp2_with fail
          refine (Num_any _ ⟨#[109, 46, 110, 101, 119]⟩ (by decide) (hL.grow HG7.out) 0 false numB_mnew.symm).mono ?_
          rintro e w8 ⟨rfl, hg8⟩
          have HG8 := Lib.hid (HG7.out.trans hg8)
          clear hg8
          go_wp2_with (first | (go_at_call 19; refine (Now_any _).mono ?_; rintro e w' ⟨rfl, rfl⟩) | (go_at_call 20; refine (Next_any _).mono ?_; rintro e w' ⟨rfl, rfl⟩))
          go_ret
          exact ⟨rfl, HG8.out⟩
    · have c1 : decide (1 ≤ num) = false := decide_eq_false h1
      by_cases ho : num = other
      · subst ho
        have HG := HG3
        obtain ⟨⟨m, is⟩, hq⟩ : ∃ q, numB name.data.toList = q := ⟨_, rfl⟩
        have Hq := Lib.hid hq
        cases is with
        | true =>
          obtain ⟨hm1, hm2, hm3⟩ := numB_true hq
          have hw1 : -9223372036854775808 ≤ m := by omega
          have hw2 : m ≤ 9223372036854775807 := by omega
          clear hq
          go_wp2_with fail
          refine (Num_any _ name hnm (hL.grow HG.out) m true Hq.out.symm).mono ?_
          rintro e w6 ⟨rfl, hg6⟩
          have HG6 := Lib.hid (HG.out.trans hg6)
          clear hg6
          go_wp2_with fail
          refine (Now_any _).mono ?_
          rintro e w7 ⟨rfl, rfl⟩
          go_wp2_with fail
          refine (Num_any _ ⟨#[109]⟩ (by decide) (hL.grow HG6.out) 0 false numB_m.symm).mono ?_
          rintro e w7 ⟨rfl, hg7⟩
          have HG7 := Lib.hid (HG6.out.trans hg7)
          clear hg7
          go_wp2_with fail
          refine (Next_any _).mono ?_
          rintro e w8 ⟨rfl, rfl⟩
          go_wp2_with fail
          refine (Num_any _ ⟨#[109, 46, 110, 101, 119]⟩ (by decide) (hL.grow HG7.out) 0 false numB_mnew.symm).mono ?_
          rintro e w8 ⟨rfl, hg8⟩
          have HG8 := Lib.hid (HG7.out.trans hg8)
          clear hg8
          go_wp2_with fail
          refine (Name_any _ m hw1 hw2 (hL.grow HG8.out)).mono ?_
          rintro e w9 ⟨rfl, hg9⟩
          have HG9 := Lib.hid (HG8.out.trans hg9)
          have hme : (nameB m == name.toList) = true := by rw [beq_iff_eq, Lib.toList_data]; exact hm1
          go_wp2_with (first | (go_at_call 19; refine (Now_any _).mono ?_; rintro e w' ⟨rfl, rfl⟩) | (go_at_call 20; refine (Next_any _).mono ?_; rintro e w' ⟨rfl, rfl⟩))
          go_ret
          exact ⟨rfl, HG9.out⟩
        | false =>
          obtain rfl : m = 0 := numB_false hq
          clear hq
          go_wp2_with fail
          refine (Num_any _ name hnm (hL.grow HG.out) 0 false Hq.out.symm).mono ?_
          rintro e w6 ⟨rfl, hg6⟩
          have HG6 := Lib.hid (HG.out.trans hg6)
          clear hg6
          go_wp2_with fail
          refine (Now_any _).mono ?_
          rintro e w7 ⟨rfl, rfl⟩
          go_wp2_with fail
          refine (Num_any _ ⟨#[109]⟩ (by decide) (hL.grow HG6.out) 0 false numB_m.symm).mono ?_
          rintro e w7 ⟨rfl, hg7⟩
          have HG7 := Lib.hid (HG6.out.trans hg7)
          clear hg7
          go_wp2_with fail
          refine (Next_any _).mono ?_
          rintro e w8 ⟨rfl, rfl⟩
          go_wp2_with fail
          refine (Num_any _ ⟨#[109, 46, 110, 101, 119]⟩ (by decide) (hL.grow HG7.out) 0 false numB_mnew.symm).mono ?_
          rintro e w8 ⟨rfl, hg8⟩
          have HG8 := Lib.hid (HG7.out.trans hg8)
          clear hg8
          go_wp2_with (first | (go_at_call 19; refine (Now_any _).mono ?_; rintro e w' ⟨rfl, rfl⟩) | (go_at_call 20; refine (Next_any _).mono ?_; rintro e w' ⟨rfl, rfl⟩))
          go_ret
          exact ⟨rfl, HG8.out⟩
      · have hne : (num == other) = false := by rw [beq_eq_false_iff_ne]; exact ho
        have HG := HG3
        obtain ⟨⟨m, is⟩, hq⟩ : ∃ q, numB name.data.toList = q := ⟨_, rfl⟩
        have Hq := Lib.hid hq
        cases is with
        | true =>
          obtain ⟨hm1, hm2, hm3⟩ := numB_true hq
          have hw1 : -9223372036854775808 ≤ m := by omega
          have hw2 : m ≤ 9223372036854775807 := by omega
          clear hq
          go_wp2_with fail
          refine (Num_any _ name hnm (hL.grow HG.out) m true Hq.out.symm).mono ?_
          rintro e w6 ⟨rfl, hg6⟩
          have HG6 := Lib.hid (HG.out.trans hg6)
          clear hg6
          go_wp2_with fail
          refine (Now_any _).mono ?_
          rintro e w7 ⟨rfl, rfl⟩
          go_wp2_with fail
          refine (Num_any _ ⟨#[109]⟩ (by decide) (hL.grow HG6.out) 0 false numB_m.symm).mono ?_
          rintro e w7 ⟨rfl, hg7⟩
          have HG7 := Lib.hid (HG6.out.trans hg7)
          clear hg7
          go_wp2_with fail
          refine (Next_any _).mono ?_
          rintro e w8 ⟨rfl, rfl⟩
          go_wp2_with fail
          refine (Num_any _ ⟨#[109, 46, 110, 101, 119]⟩ (by decide) (hL.grow HG7.out) 0 false numB_mnew.symm).mono ?_
          rintro e w8 ⟨rfl, hg8⟩
          have HG8 := Lib.hid (HG7.out.trans hg8)
          clear hg8
          go_wp2_with fail
          refine (Name_any _ m hw1 hw2 (hL.grow HG8.out)).mono ?_
          rintro e w9 ⟨rfl, hg9⟩
          have HG9 := Lib.hid (HG8.out.trans hg9)
          have hme : (nameB m == name.toList) = true := by rw [beq_iff_eq, Lib.toList_data]; exact hm1
          go_wp2_with (first | (go_at_call 19; refine (Now_any _).mono ?_; rintro e w' ⟨rfl, rfl⟩) | (go_at_call 20; refine (Next_any _).mono ?_; rintro e w' ⟨rfl, rfl⟩))
          go_ret
          exact ⟨rfl, HG9.out⟩
        | false =>
          obtain rfl : m = 0 := numB_false hq
          clear hq
          go_wp2_with fail
          refine (Num_any _ name hnm (hL.grow HG.out) 0 false Hq.out.symm).mono ?_
          rintro e w6 ⟨rfl, hg6⟩
          have HG6 := Lib.hid (HG.out.trans hg6)
          clear hg6
          go_wp2_with fail
          refine (Now_any _).mono ?_
          rintro e w7 ⟨rfl, rfl⟩
          go_wp2_with fail
          refine (Num_any _ ⟨#[109]⟩ (by decide) (hL.grow HG6.out) 0 false numB_m.symm).mono ?_
          rintro e w7 ⟨rfl, hg7⟩
          have HG7 := Lib.hid (HG6.out.trans hg7)
          clear hg7
          go_wp2_with fail
          refine (Next_any _).mono ?_
          rintro e w8 ⟨rfl, rfl⟩
          go_wp2_with fail
          refine (Num_any _ ⟨#[109, 46, 110, 101, 119]⟩ (by decide) (hL.grow HG7.out) 0 false numB_mnew.symm).mono ?_
          rintro e w8 ⟨rfl, hg8⟩
          have HG8 := Lib.hid (HG7.out.trans hg8)
          clear hg8
          go_wp2_with (first | (go_at_call 19; refine (Now_any _).mono ?_; rintro e w' ⟨rfl, rfl⟩) | (go_at_call 20; refine (Next_any _).mono ?_; rintro e w' ⟨rfl, rfl⟩))
          go_ret
          exact ⟨rfl, HG8.out⟩
end Go.Proofs.YtcimkoehcdfjdaaDoor
