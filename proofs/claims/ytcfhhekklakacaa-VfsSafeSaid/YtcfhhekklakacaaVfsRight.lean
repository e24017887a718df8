/-
  The walk of vfs's right: is a text a name?
-/
import Derived.Test.YtcfhhekklakacaaBaseE
import Derived.Lib.ConvBytes
import Derived.Lib.Strings
import Derived.BigQuiet
import Derived.IntWalk
namespace Go.Proofs.Ytcfhhekklakacaa
open Go.RowKit
set_option linter.unusedVariables false
/-- may a byte stand in a name? -/
def rightC (c : UInt8) : Bool := !((decide ((c.toNat : Int) < 97) || decide (122 < (c.toNat : Int))) && (decide ((c.toNat : Int) < 48) || decide (57 < (c.toNat : Int))) && ((c.toNat : Int) != 46))
/-- is a text a name? -/
def rightB (s : ByteArray) : Bool := s.data.toList.all rightC && (s.size != 0) && decide (s.size ≤ 30)
theorem take_all {l : List UInt8} {k : Nat} {x : UInt8} (h : (l.take k).all rightC = true) (hx : l[k]? = some x) (hc : rightC x = true) : (l.take (k + 1)).all rightC = true := by
  rw [List.take_add_one, hx, List.all_append, h]
  simp [hc]
theorem str_nil (s : ByteArray) : s.toList.isEmpty = decide (s.size = 0) := by
  rw [Lib.toList_data]
  show s.data.toList.isEmpty = decide (s.data.size = 0)
  rw [← Array.length_toList]
  cases s.data.toList with
  | nil => rfl
  | cons a r => simp
set_option maxRecDepth 100000 in
set_option maxHeartbeats 4000000 in
theorem vright_any (w : World) (s : ByteArray) (hn : s.size ≤ 281474976710656) :
    Calls Try.prog 22 #[.string s] w fun e w' => e = .returned (.bool (rightB s)) ∧ Grow w w' := by
  have Hcon := Lib.hid (show ∀ W : World, (convert 9 22 (.string s)).run Try.prog W = .ok (.slice (some ⟨W.heap.size, 0, none⟩) s.size (grownCap W s.size 0 5)) (Lib.bytesWorld W 5 s) from fun W => Lib.run_convert_string_bytes W 9 22 5 s Try.underlying9 Try.underlying22 Try.underlying5)
  have hcon := Hcon.out w
  have hg : Grow w (Lib.bytesWorld w 5 s) := ⟨rfl, rfl, rfl, by rw [Lib.bytesWorld_size]; omega, fun k hk => Lib.bytesWorld_at_old _ _ _ _ hk⟩
  have Hcell := Lib.hid (fun (k : Nat) (x : UInt8) (hx : s.data.toList[k]? = some x) => show (Lib.bytesWorld w 5 s).cell? ⟨w.heap.size, k, none⟩ = some (.int .u8 (x.toNat : Int)) by
    have hk : k < s.size := by
      have := (List.getElem?_eq_some_iff.1 hx).1
      simpa using this
    rw [Lib.bytesWorld_cell w 5 s k hk, List.getD_eq_getElem?_getD, hx]
    rfl)
  obtain ⟨cp, hcp⟩ : ∃ cp, cp = grownCap w s.size 0 5 := ⟨_, rfl⟩
  rw [← hcp] at hcon
  obtain ⟨wb, hwb⟩ : ∃ wb, wb = Lib.bytesWorld w 5 s := ⟨_, rfl⟩
  rw [← hwb] at hcon hg Hcell
  have Hl := Lib.hid (show s.data.toList.length = s.size from Array.length_toList)
  obtain ⟨m, hm⟩ : ∃ m, m = s.size := ⟨_, rfl⟩
  have Hg := Lib.hid hg
  have hnil := str_nil s
  have Hnil := Lib.hid hnil
  clear hnil
  clear hcp hwb Hcon hg
  go_enter Try.func22, Try.ntmps22
  go_wp2_with fail
  clear hcon
  go_loopw [8] (fun v8 wr => ∃ k : Nat, k ≤ s.size ∧ v8 = .int .i64 (k : Int) ∧ Hid ((s.data.toList.take k).all rightC = true) ∧ wb = wr) (fun v8 _ => s.size - (intOf v8).toNat)
  case atStart => exact ⟨0, by omega, rfl, by simp [Hid], rfl⟩
  case round =>
    obtain ⟨k, hk, rfl, hs, rfl⟩ := hrel
    by_cases hlt : k < s.size
    · have d0 : decide ((k : Int) < (s.size : Int)) = true := decide_eq_true (by omega)
      obtain ⟨x, hx⟩ : ∃ x, s.data.toList[k]? = some x := ⟨_, List.getElem?_eq_getElem (by rw [Hl.out]; exact hlt)⟩
      have hc := Hcell.out k x hx
      have Hx := Lib.hid hx
      clear hx
      cases hrc : rightC x with
      | true =>
        have Hs2 := Lib.hid (take_all hs.out Hx.out hrc)
        have hrx := hrc
        unfold rightC at hrx
        cases p1 : decide ((x.toNat : Int) < 97) <;> cases p2 : decide (122 < (x.toNat : Int)) <;> cases p3 : decide ((x.toNat : Int) < 48) <;> cases p4 : decide (57 < (x.toNat : Int)) <;> cases p5 : ((x.toNat : Int) != 46) <;> simp [p1, p2, p3, p4, p5] at hrx <;> clear hrc
        all_goals
          go_wp2_with fail
          go_roundw
          case rel => exact ⟨k + 1, by omega, by go_num, Hs2, by first | trivial | rfl⟩
          case measure => simp [intOf]; omega
      | false =>
        have Hr := Lib.hid (show rightB s = false by
          unfold rightB
          have : s.data.toList.all rightC = false := by
            rw [List.all_eq_false]
            exact ⟨x, List.mem_of_getElem? Hx.out, by rw [hrc]; decide⟩
          rw [this]
          rfl)
        have hrx := hrc
        unfold rightC at hrx
        cases p1 : decide ((x.toNat : Int) < 97) <;> cases p2 : decide (122 < (x.toNat : Int)) <;> cases p3 : decide ((x.toNat : Int) < 48) <;> cases p4 : decide (57 < (x.toNat : Int)) <;> cases p5 : ((x.toNat : Int) != 46) <;> simp [p1, p2, p3, p4, p5] at hrx <;> clear hrc
        all_goals
          go_wp2_with fail
          go_ret
          exact ⟨by rw [Hr.out]; rfl, Hg.out⟩
    · have d0 : decide ((k : Int) < (s.size : Int)) = false := decide_eq_false (by omega)
      obtain rfl : k = s.size := by omega
      have hall : s.data.toList.all rightC = true := by
        have := hs.out
        rw [List.take_of_length_le (Nat.le_of_eq Hl.out)] at this
        exact this
      clear hs hm
      by_cases h0 : s.size = 0
      · have Hr := Lib.hid (show rightB s = false by
          unfold rightB
          rw [h0]
          simp)
        have hn0 : s.toList.isEmpty = true := by rw [Hnil.out]; exact decide_eq_true h0
        clear hall h0
        go_wp2_with fail
        go_ret
        exact ⟨by rw [Hr.out]; rfl, Hg.out⟩
      · have hn0 : s.toList.isEmpty = false := by rw [Hnil.out]; exact decide_eq_false h0
        by_cases h30 : s.size ≤ 30
        · have Hr := Lib.hid (show rightB s = true by
            unfold rightB
            rw [hall]
            simp [h0, h30])
          have d30 : decide ((s.size : Int) ≤ 30) = true := decide_eq_true (by omega)
          clear hall h0
          go_wp2_with fail
          go_ret
          exact ⟨by rw [Hr.out]; rfl, Hg.out⟩
        · have Hr := Lib.hid (show rightB s = false by
            unfold rightB
            simp [h30])
          have d30 : decide ((s.size : Int) ≤ 30) = false := decide_eq_false (by omega)
          clear hall h0
          go_wp2_with fail
          go_ret
          exact ⟨by rw [Hr.out]; rfl, Hg.out⟩
end Go.Proofs.Ytcfhhekklakacaa
