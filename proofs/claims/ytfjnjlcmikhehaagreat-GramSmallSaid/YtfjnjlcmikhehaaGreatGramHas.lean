/-
  The walks of SameTexts and of slices.Contains at texts and at bools.
-/
import Derived.Test.YtfjnjlcmikhehaaGreatGramOut
import Derived.BigQuiet
import Derived.IntWalk
namespace Go.Proofs.YtfjnjlcmikhehaaGreat
open Go.RowKit
set_option linter.unusedVariables false
/-- texts that stand in a row -/
def TextsAt (w : World) (B : Nat) (A : Option Addr) (n : Nat) (l : List ByteArray) : Prop := ReadsAt w B 1 A n (l.map Value.string)
section
variable {w : World} {B n : Nat} {A : Option Addr} {l : List ByteArray}
theorem TextsAt.len (h : TextsAt w B A n l) : l.length = n := by simpa using h.1
theorem TextsAt.at_ (h : TextsAt w B A n l) (hn : 0 < n) : ∃ b off, A = some ⟨b, off, none⟩ ∧ b < B ∧ ∀ j x, l[j]? = some x → w.cell? ⟨b, off + j, none⟩ = some (.string x) := by
  obtain ⟨b, off, h1, h2, h3⟩ := h.2 hn
  exact ⟨b, off, h1, h2, fun j x hx => h3 j _ (by rw [List.getElem?_map, hx]; rfl)⟩
end
/-- bools that stand in a row -/
def BoolsAt (w : World) (B : Nat) (A : Option Addr) (n : Nat) (l : List Bool) : Prop := ReadsAt w B 1 A n (l.map Value.bool)
section
variable {w : World} {B n : Nat} {A : Option Addr} {l : List Bool}
theorem BoolsAt.len (h : BoolsAt w B A n l) : l.length = n := by simpa using h.1
theorem BoolsAt.at_ (h : BoolsAt w B A n l) (hn : 0 < n) : ∃ b off, A = some ⟨b, off, none⟩ ∧ b < B ∧ ∀ j x, l[j]? = some x → w.cell? ⟨b, off + j, none⟩ = some (.bool x) := by
  obtain ⟨b, off, h1, h2, h3⟩ := h.2 hn
  exact ⟨b, off, h1, h2, fun j x hx => h3 j _ (by rw [List.getElem?_map, hx]; rfl)⟩
end
theorem not_mem_take {α : Type} {l : List α} {k : Nat} {x y : α} (h : x ∉ l.take k) (hy : l[k]? = some y) (hne : x ≠ y) : x ∉ l.take (k + 1) := by
  rw [List.take_add_one, hy]
  intro hm
  rcases List.mem_append.1 hm with h1 | h1
  · exact h h1
  · exact hne (by simpa using h1)
theorem str_inj {a b : ByteArray} (h : a.toList = b.toList) : a = b := by
  rw [Lib.toList_data, Lib.toList_data] at h
  cases a
  cases b
  simp only [ByteArray.mk.injEq]
  exact Array.toList_inj.1 h
theorem str_eq (a : ByteArray) : (a.toList == a.toList) = true := by simp
theorem str_ne {a b : ByteArray} (h : a ≠ b) : (a.toList == b.toList) = false := by
  rw [beq_eq_false_iff_ne]
  exact fun e => h (str_inj e)
set_option maxRecDepth 100000 in
set_option maxHeartbeats 1000000 in
theorem SameTexts_any (w : World) (B B2 : Nat) (A A2 : Option Addr) (n c n2 c2 : Nat) (l l2 : List ByteArray) (hR : TextsAt w B A n l) (hR2 : TextsAt w B2 A2 n2 l2) (hc : n ≤ maxLen) (hc2 : n2 ≤ maxLen) :
    Calls Tryz.prog 14 #[.slice A n c, .slice A2 n2 c2] w fun e w' => ∃ b : Bool, e = .returned (.bool b) ∧ (b = true ↔ l = l2) ∧ ∃ q, w.drewN q = w' := by
  unfold maxLen at hc hc2
  by_cases hn : n = n2
  · subst hn
    have hnb : ((n : Int) == (n : Int)) = true := by simp
    have hl := Lib.hid hR.len
    have hl2 := Lib.hid hR2.len
    go_enter Tryz.func14, Tryz.ntmps14
    go_wp2
    go_loopw [5] (fun v5 wr => ∃ k q : Nat, k ≤ n ∧ v5 = .int .i64 (k : Int) ∧ Hid (l.take k = l2.take k) ∧ w.drewN q = wr) (fun v5 _ => n - (intOf v5).toNat)
    case atStart => exact ⟨0, 0, by omega, rfl, by simp [Hid], rfl⟩
    case round =>
      obtain ⟨k, q, hk, rfl, hs, rfl⟩ := hrel
      by_cases hlt : k < n
      · obtain ⟨b, off, rfl, hb, hcl⟩ := hR.at_ (by omega)
        obtain ⟨b2, off2, rfl, hb2, hcl2⟩ := hR2.at_ (by omega)
        obtain ⟨x, hx⟩ : ∃ x, l[k]? = some x := ⟨_, List.getElem?_eq_getElem (by rw [hl.out]; exact hlt)⟩
        obtain ⟨y, hy⟩ : ∃ y, l2[k]? = some y := ⟨_, List.getElem?_eq_getElem (by rw [hl2.out]; exact hlt)⟩
        have hcx := hcl k x hx
        have hcy := hcl2 k y hy
        have Hx := Lib.hid hx
        have Hy := Lib.hid hy
        clear hcl hcl2 hx hy
        by_cases hxy : x = y
        · subst hxy
          have hne := str_eq x
          go_wp2_with fail
          go_quiet (fail)
          go_wp2
          go_roundw
          case rel => exact ⟨k + 1, _, by omega, by go_num, same_take hs.out Hx.out Hy.out, rfl⟩
          case measure => simp [intOf]; omega
        · have hne := str_ne hxy
          have Hxy := Lib.hid hxy
          clear hxy
          go_wp2_with fail
          go_quiet (fail)
          go_wp2
          go_ret
          exact ⟨_, rfl, ⟨fun h => (by cases h), fun h => absurd (by have h1 := Hx.out; rw [h, Hy.out] at h1; injection h1 with h1; exact h1.symm) Hxy.out⟩, _, (World.drewN_drewN _ _ _).symm⟩
      · obtain rfl : k = n := by omega
        have hs2 := hs.out
        rw [List.take_of_length_le (Nat.le_of_eq hl.out), List.take_of_length_le (Nat.le_of_eq hl2.out)] at hs2
        have Hs2 := Lib.hid hs2
        clear hs2 hR hR2
        go_wp2
        go_ret
        exact ⟨_, rfl, ⟨fun _ => Hs2.out, fun _ => rfl⟩, _, rfl⟩
  · have hnb : ((n : Int) == (n2 : Int)) = false := by rw [beq_eq_false_iff_ne]; omega
    have Hf := Lib.hid (show l ≠ l2 by
      rintro rfl
      exact hn (hR.len.symm.trans hR2.len))
    have Hn := Lib.hid hn
    clear hn hR hR2
    go_enter Tryz.func14, Tryz.ntmps14
    go_wp2
    go_ret
    exact ⟨_, rfl, ⟨fun h => (by cases h), fun h => absurd h Hf.out⟩, 0, rfl⟩
end Go.Proofs.YtfjnjlcmikhehaaGreat
