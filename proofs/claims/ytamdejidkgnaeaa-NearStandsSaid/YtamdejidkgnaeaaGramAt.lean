/-
  The walk of gram's At.
-/
import Derived.Test.YtamdejidkgnaeaaGramOut
namespace Go.Proofs.Ytamdejidkgnaeaa
open Go.RowKit Go.Shelf GramM
set_option linter.unusedVariables false
/-- what At tells -/
def atV (gs : List Gr) (i : Int) : Value :=
  match (if 0 ≤ i then gs[i.toNat]? else none) with
  | some g => .tuple #[.string (grS g), .bool true]
  | none => .tuple #[.string .empty, .bool false]
set_option maxRecDepth 100000 in
set_option maxHeartbeats 2000000 in
theorem at_any (w : World) (B : Nat) (A : Option Addr) (n c : Nat) (b : List UInt8) (i : Int) (hb : BytesAt w B A n b) (hnc : n ≤ c) (hn : n ≤ 1099511627776) (hi : i ≤ 9223372036854775807) (hi0 : -9223372036854775808 ≤ i) :
    Calls Try.prog 11 #[.slice A n c, .int .i64 i] w fun e w' => e = .returned (atV (grams b) i) ∧ w' = w := by
  have hgl : (grams b).length = n - 2 := by rw [grams_len, hb.len]
  by_cases h0 : i < 0
  · have hv : atV (grams b) i = .tuple #[.string .empty, .bool false] := by
      unfold atV
      rw [if_neg (by omega)]
    rw [hv]
    clear hb hv hgl
    have d1 : decide (i < 0) = true := decide_eq_true h0
    go_enter Try.func11, Try.ntmps11
    go_wp2
    refine bodyPost_ret (results_tmp2 rfl _ _ _) rfl ?_
    exact ⟨rfl, rfl⟩
  · obtain ⟨k, rfl⟩ : ∃ k : Nat, i = (k : Int) := ⟨i.toNat, by omega⟩
    have d1 : decide ((k : Int) < 0) = false := decide_eq_false h0
    by_cases h1 : (n : Int) - 3 < (k : Int)
    · have hv : atV (grams b) (k : Int) = .tuple #[.string .empty, .bool false] := by
        unfold atV
        rw [if_pos (by omega), Int.toNat_natCast, List.getElem?_eq_none (by omega)]
      rw [hv]
      clear hb hv hgl
      have d2 : decide ((n : Int) - 3 < (k : Int)) = true := decide_eq_true h1
      go_enter Try.func11, Try.ntmps11
      go_wp2
      refine bodyPost_ret (results_tmp2 rfl _ _ _) rfl ?_
      exact ⟨rfl, rfl⟩
    · have hk3 : k + 3 ≤ n := by omega
      obtain ⟨⟨x, y, z⟩, hg⟩ : ∃ g, (grams b)[k]? = some g := ⟨_, List.getElem?_eq_getElem (by omega)⟩
      have hv : atV (grams b) (k : Int) = .tuple #[.string ⟨#[x, y, z]⟩, .bool true] := by
        unfold atV
        rw [if_pos (by omega), Int.toNat_natCast, hg]
        rfl
      obtain ⟨b0, off, rfl, hlt, hcs⟩ := hb.at_ (by omega)
      obtain ⟨g1, g2, g3⟩ := grams_of hg
      have hcv := conv3 w b0 (off + k) (c - k) x y z (hcs k x g1) (by rw [Nat.add_assoc]; exact hcs _ y g2) (by rw [Nat.add_assoc]; exact hcs _ z g3)
      have d2 : decide ((n : Int) - 3 < (k : Int)) = false := decide_eq_false h1
      rw [hv]
      clear hb hv hg hgl g1 g2 g3 hcs
      go_enter Try.func11, Try.ntmps11
      go_wp2
      refine bodyPost_ret (results_tmp2 rfl _ _ _) rfl ?_
      exact ⟨rfl, rfl⟩
end Go.Proofs.Ytamdejidkgnaeaa
