/-
  Manifests in memory: shards, a manifest; the walk of mani's rising, and of mudlarkkit's SameShardRef, SameShardRefs, SameManifest.
-/
import Derived.Deep.MidRow
import Derived.Deep.DeepCutAuto
import Derived.Deep.CutRange
import Derived.Test.YtcimkoehcdfjdaaDoorBaseB
import Derived.Test.YtcimkoehcdfjdaaDoorBaseA
import Derived.Test.YtcimkoehcdfjdaaDoorBaseC
import Derived.Test.YtcimkoehcdfjdaaDoorManiMath
namespace Go.Proofs.YtcimkoehcdfjdaaDoor
open Go.RowKit Go.ChangeShapes Go.WideShapes WireM

def Wide64 (x : Int) : Prop := -9223372036854775808 ≤ x ∧ x ≤ 9223372036854775807
/-- four cells are a shard -/
def ShardCells (w : World) (B : Nat) (cs : List Value) (t : ShardM) : Prop :=
  ∃ A n c, cs = [.int .i64 t.num, .int .i64 t.size, .int .u32 (t.sum.toNat : Int), .slice A n c] ∧ n ≤ c ∧ c ≤ maxLen ∧ n ≤ 17592186044416 ∧ IntsAt w B A n t.dead ∧ Wide64 t.num ∧ Wide64 t.size ∧ ∀ x ∈ t.dead, Wide64 x
def ShardsAt (w : World) (B : Nat) (A : Option Addr) (n : Nat) (ts : List ShardM) : Prop := SliceBy w B 4 A n (ShardCells w B) ts

section
variable {w w' : World} {B B' n : Nat} {A : Option Addr} {ts : List ShardM}
theorem ShardCells.keep {cs : List Value} {t : ShardM} (h : ShardCells w B cs t) (hk : ∀ p : Addr, p.block < B → w'.cell? p = w.cell? p) : ShardCells w' B cs t := by
  obtain ⟨A, n, c, h0, h1, h2, h4, h3, h5⟩ := h
  exact ⟨A, n, c, h0, h1, h2, h4, h3.keep hk, h5⟩
theorem ShardsAt.keep (h : ShardsAt w B A n ts) (hk : ∀ p : Addr, p.block < B → w'.cell? p = w.cell? p) : ShardsAt w' B A n ts := SliceBy.keep h hk fun _ _ h => h.keep hk
theorem ShardsAt.below (h : ShardsAt w B A n ts) (hb : Below B w w') : ShardsAt w' B A n ts := h.keep fun _ hp => hb.cell hp
theorem ShardsAt.more (h : ShardsAt w B A n ts) (hB : B ≤ B') : ShardsAt w B' A n ts :=
  ⟨h.1, fun hn => by
    obtain ⟨b, off, e, hb, hc⟩ := h.2 hn
    refine ⟨b, off, e, by omega, fun j a hj => ?_⟩
    obtain ⟨cs, h1, ⟨A', n', c', h2, h3, h4, h7, h5, h8⟩, h6⟩ := hc j a hj
    exact ⟨cs, h1, ⟨A', n', c', h2, h3, h4, h7, h5.more hB, h8⟩, h6⟩⟩
theorem ShardsAt.len (h : ShardsAt w B A n ts) : ts.length = n := h.1
/-- a shard at its place -/
theorem ShardsAt.at_ (h : ShardsAt w B A n ts) {k : Nat} {t : ShardM} (hk : ts[k]? = some t) : ∃ b off A1 n1 c1, A = some ⟨b, off, none⟩ ∧ b < B ∧
    w.cell? ⟨b, off + k * 4, none⟩ = some (.int .i64 t.num) ∧ w.cell? ⟨b, off + k * 4 + 1, none⟩ = some (.int .i64 t.size) ∧ w.cell? ⟨b, off + k * 4 + 2, none⟩ = some (.int .u32 (t.sum.toNat : Int)) ∧ w.cell? ⟨b, off + k * 4 + 3, none⟩ = some (.slice A1 n1 c1) ∧ n1 ≤ c1 ∧ c1 ≤ maxLen ∧ n1 ≤ 17592186044416 ∧ IntsAt w B A1 n1 t.dead ∧ Wide64 t.num ∧ Wide64 t.size ∧ ∀ x ∈ t.dead, Wide64 x := by
  have hn : 0 < n := by
    have h1 := (List.getElem?_eq_some_iff.1 hk).1
    have h2 := h.1
    omega
  obtain ⟨b, off, e, hb, hc⟩ := h.2 hn
  obtain ⟨cs, hl, ⟨A1, n1, c1, rfl, h1, h2, h4, h3⟩, hcs⟩ := hc k t hk
  exact ⟨b, off, A1, n1, c1, e, hb, hcs 0 _ rfl, hcs 1 _ rfl, hcs 2 _ rfl, hcs 3 _ rfl, h1, h2, h4, h3⟩
end

/-- numbers that rise -/
theorem riseB_cons {hi a x : Int} {l : List Int} : riseB hi a (x :: l) = (decide (a ≤ x) && decide (x ≤ hi) && riseB hi (x + 1) l) := rfl

set_option maxRecDepth 100000 in
set_option maxHeartbeats 1000000 in
theorem rising_any (w : World) (B : Nat) (fr hi : Int) (A : Option Addr) (n c : Nat) (l : List Int) (hR : IntsAt w B A n l) (hn : n ≤ maxLen) (hf : 0 ≤ fr) (hf2 : fr ≤ 1099511627777) (hh : hi ≤ 1099511627776) :
    Calls Tryd.prog 43 #[.int .i64 fr, .int .i64 hi, .slice A n c] w fun e w' => e = .returned (.bool (riseB hi fr l)) ∧ w = w' := by
  unfold maxLen at hn
  have Hlen := Lib.hid hR.len
  go_enter Tryd.func43, Tryd.ntmps43
  go_wp2
  go_loop [0, 8, 11] (fun v0 _ v11 => ∃ (k : Nat) (f : Int), k ≤ n ∧ v0 = .int .i64 f ∧ v11 = .int .i64 (k : Int) ∧ 0 ≤ f ∧ f ≤ 1099511627777 ∧ Hid (riseB hi fr l = riseB hi f (l.drop k))) (fun _ _ v11 => n - (intOf v11).toNat)
  case atStart => exact ⟨0, fr, by omega, rfl, rfl, hf, hf2, rfl⟩
  case round =>
    obtain ⟨k, f, hk, rfl, rfl, hf0, hf3, hs⟩ := hrel
    by_cases hlt : k < n
    · obtain ⟨b, off, rfl, hb, hcl⟩ := hR.at_ (by omega)
      obtain ⟨x, hx⟩ : ∃ x, l[k]? = some x := ⟨_, List.getElem?_eq_getElem (by rw [Hlen.out]; exact hlt)⟩
      have hcx := hcl k x hx
      have Hd := Lib.hid (show riseB hi fr l = (decide (f ≤ x) && decide (x ≤ hi) && riseB hi (x + 1) (l.drop (k + 1))) by
        obtain ⟨p1, q1⟩ := List.getElem?_eq_some_iff.1 hx
        rw [hs.out, List.drop_eq_getElem_cons p1, q1, riseB_cons])
      clear hcl hx hs
      by_cases h1 : x < f
      · have Hr := Lib.hid (show riseB hi fr l = false by rw [Hd.out, decide_eq_false (by omega : ¬ f ≤ x)]; rfl)
        have d1 : decide (x < f) = true := decide_eq_true h1
        clear Hd
        go_wp2
        go_ret
        exact ⟨ret_bool Hr.out.symm, rfl⟩
      · have d1 : decide (x < f) = false := decide_eq_false h1
        by_cases h2 : hi < x
        · have Hr := Lib.hid (show riseB hi fr l = false by rw [Hd.out, decide_eq_false (by omega : ¬ x ≤ hi), Bool.and_false]; rfl)
          have d2 : decide (hi < x) = true := decide_eq_true h2
          clear Hd
          go_wp2
          go_ret
          exact ⟨ret_bool Hr.out.symm, rfl⟩
        · have d2 : decide (hi < x) = false := decide_eq_false h2
          have Hr := Lib.hid (show riseB hi fr l = riseB hi (x + 1) (l.drop (k + 1)) by rw [Hd.out, decide_eq_true (by omega : f ≤ x), decide_eq_true (by omega : x ≤ hi)]; rfl)
          clear Hd
          go_wp2
          go_round
          case rel => exact ⟨k + 1, x + 1, by omega, by go_num, by go_num, by omega, by omega, Hr⟩
          case measure => simp [intOf]; omega
    · obtain rfl : k = n := by omega
      have Hr := Lib.hid (show riseB hi fr l = true by rw [hs.out, List.drop_eq_nil_of_le (by rw [Hlen.out]; omega)]; rfl)
      clear hs
      go_wp2
      go_ret
      exact ⟨ret_bool Hr.out.symm, rfl⟩
end Go.Proofs.YtcimkoehcdfjdaaDoor
