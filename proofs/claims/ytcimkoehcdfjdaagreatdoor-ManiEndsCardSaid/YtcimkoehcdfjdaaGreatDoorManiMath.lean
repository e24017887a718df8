/-
  Plain mathematics of manifests (layer 25): when one is right, its bytes, what is got of bytes; what is put is got, and there is one way to put it. No program is in sight.
-/
import Derived.Test.YtcimkoehcdfjdaaGreatDoorWireRise
import Derived.Test.YtcimkoehcdfjdaaGreatDoorFrameMath
namespace Go.Proofs.YtcimkoehcdfjdaaGreatDoor.WireM
open Proofs.YtcimkoehcdfjdaaGreatDoor

structure ShardM where
 num : Int
 size : Int
 sum : BitVec 32
 dead : List Int
instance : Inhabited ShardM := ⟨⟨0, 0, 0, []⟩⟩
structure ManiM where
 gen : Int
 shards : List ShardM

def riseB (hi : Int) : Int → List Int → Bool
 | _, [] => true
 | a, n :: r => decide (a ≤ n) && decide (n ≤ hi) && riseB hi (n + 1) r
def shardRight (s : ShardM) : Bool := decide (0 ≤ s.size) && decide (s.size ≤ 67108864) && riseB 3999 0 s.dead
def headRight (m : ManiM) : Bool := decide (0 ≤ m.gen) && decide (m.gen ≤ 1099511627776) && decide (m.shards.length ≤ 40)
def maniRight (m : ManiM) : Bool := headRight m && m.shards.all shardRight && riseB m.gen 1 (m.shards.map (·.num))

def natRowM (r : List Int) : List Nat := r.map Int.toNat
def shardB (s : ShardM) : List UInt8 := enc s.num.toNat ++ (enc s.size.toNat ++ (fourB s.sum ++ (enc s.dead.length ++ rb 0 (natRowM s.dead))))
def shardsB : List ShardM → List UInt8
 | [] => []
 | s :: r => shardB s ++ shardsB r
def maniB (m : ManiM) : List UInt8 := enc m.gen.toNat ++ (enc m.shards.length ++ shardsB m.shards)
theorem shardsB_append (a b : List ShardM) : shardsB (a ++ b) = shardsB a ++ shardsB b := by
 induction a with
 | nil => rfl
 | cons x a ih => simp only [List.cons_append, shardsB, ih, List.append_assoc]
theorem shardsB_succ {ss : List ShardM} {k : Nat} {s : ShardM} (h : ss[k]? = some s) : shardsB (ss.take (k + 1)) = shardsB (ss.take k) ++ shardB s := by
 rw [List.take_add_one, h, shardsB_append]
 simp [shardsB]

def getShard (st : St) : ShardM × St :=
 let a := num 1099511627776 st
 let b := num 67108864 a.2
 let c := fixed b.2
 let d := rising 4000 3999 c.2
 (⟨a.1, b.1, BitVec.ofNat 32 c.1, d.1.map fun n : Nat => (n : Int)⟩, d.2)
def getShards : Nat → St → List ShardM × St
 | 0, st => ([], st)
 | k + 1, st =>
  let a := getShard st
  match a.2 with
  | none => ([], none)
  | some l => let b := getShards k (some l); (a.1 :: b.1, b.2)
def getM (b : List UInt8) : Option ManiM :=
 let g := num 1099511627776 (some b)
 let k := num 40 g.2
 let s := getShards k.1 k.2
 if s.2 = some [] ∧ maniRight ⟨g.1, s.1⟩ = true then some ⟨g.1, s.1⟩ else none
def getF (b : List UInt8) : Option ManiM := match getB b with
 | some [⟨1, p⟩] => getM p
 | _ => none

theorem num_none (most : Int) : num most none = (0, none) := rfl
theorem getShard_none : (getShard none).2 = none := rfl

/-! what is put is got -/
theorem riseB_rises : ∀ (hi a : Int) (r : List Int), 0 ≤ a → hi ≤ 1099511627776 → riseB hi a r = true → Rises a.toNat (natRowM r) ∧ (∀ n ∈ natRowM r, (n : Int) ≤ hi) ∧ (∀ x ∈ r, 0 ≤ x ∧ x ≤ hi)
 | _, _, [], _, _, _ => ⟨trivial, fun n hn => by simp [natRowM] at hn, fun x hx => by simp at hx⟩
 | hi, a, n :: r, ha, ht, h => by
  simp only [riseB, Bool.and_eq_true, decide_eq_true_eq] at h
  obtain ⟨⟨h1, h2⟩, h3⟩ := h
  obtain ⟨q1, q2, q3⟩ := riseB_rises hi (n + 1) r (by omega) ht h3
  refine ⟨⟨by omega, by unfold maxNum; omega, ?_⟩, fun k hk => ?_, fun x hx => ?_⟩
  ·rw [show n.toNat + 1 = (n + 1).toNat by omega]
   exact q1
  ·rcases List.mem_cons.1 hk with rfl | hk
   ·omega
   ·exact q2 k hk
  ·rcases List.mem_cons.1 hx with rfl | hx
   ·omega
   ·exact q3 x hx
theorem riseB_len : ∀ (hi a : Int) (r : List Int), riseB hi a r = true → a ≤ hi + 1 → (r.length : Int) ≤ hi + 1 - a
 | _, _, [], _, h => by simp only [List.length_nil]; omega
 | hi, a, n :: r, h, ha => by
  simp only [riseB, Bool.and_eq_true, decide_eq_true_eq] at h
  obtain ⟨⟨h1, h2⟩, h3⟩ := h
  have := riseB_len hi (n + 1) r h3 (by omega)
  simp only [List.length_cons]
  omega
theorem natRowM_back {r : List Int} (h : ∀ x ∈ r, 0 ≤ x) : (natRowM r).map (fun n : Nat => (n : Int)) = r := by
 induction r with
 | nil => rfl
 | cons x r ih =>
  have h1 := h x (by simp)
  have h2 := ih fun y hy => h y (by simp [hy])
  simp only [natRowM, List.map_cons, List.map_map] at h2 ⊢
  rw [h2]
  congr 1
  omega
theorem natRowM_len (r : List Int) : (natRowM r).length = r.length := by simp [natRowM]
theorem shard_dead {s : ShardM} (h : shardRight s = true) : 0 ≤ s.size ∧ s.size ≤ 67108864 ∧ Rises 0 (natRowM s.dead) ∧ (∀ n ∈ natRowM s.dead, (n : Int) ≤ 3999) ∧ (∀ x ∈ s.dead, 0 ≤ x ∧ x ≤ 3999) ∧ s.dead.length ≤ 4000 := by
 simp only [shardRight, Bool.and_eq_true, decide_eq_true_eq] at h
 obtain ⟨⟨h1, h2⟩, h3⟩ := h
 obtain ⟨q1, q2, q3⟩ := riseB_rises 3999 0 s.dead (by omega) (by omega) h3
 have := riseB_len 3999 0 s.dead h3 (by omega)
 exact ⟨h1, h2, q1, q2, q3, by omega⟩
theorem getShard_put {s : ShardM} (h : shardRight s = true) (hn : 0 ≤ s.num) (hn2 : s.num ≤ 1099511627776) (l : List UInt8) : getShard (some (shardB s ++ l)) = (s, some l) := by
 obtain ⟨h1, h2, h3, h4, h5, h6⟩ := shard_dead h
 have e1 : num 1099511627776 (some (shardB s ++ l)) = (s.num.toNat, some (enc s.size.toNat ++ (fourB s.sum ++ (enc s.dead.length ++ rb 0 (natRowM s.dead))) ++ l)) := by
  rw [shardB, List.append_assoc]
  exact num_enc _ _ _ (by unfold maxNum; omega) (by omega)
 have e2 : num 67108864 (some (enc s.size.toNat ++ (fourB s.sum ++ (enc s.dead.length ++ rb 0 (natRowM s.dead))) ++ l)) = (s.size.toNat, some (fourB s.sum ++ (enc s.dead.length ++ rb 0 (natRowM s.dead)) ++ l)) := by
  rw [List.append_assoc]
  exact num_enc _ _ _ (by unfold maxNum; omega) (by omega)
 have e3 : fixed (some (fourB s.sum ++ (enc s.dead.length ++ rb 0 (natRowM s.dead)) ++ l)) = (s.sum.toNat, some (enc s.dead.length ++ rb 0 (natRowM s.dead) ++ l)) := by
  rw [List.append_assoc]
  exact fixed_four _ _
 have e4 : rising 4000 3999 (some (enc s.dead.length ++ rb 0 (natRowM s.dead) ++ l)) = (natRowM s.dead, some l) := by
  have := rising_rb (natRowM s.dead) 4000 3999 l h3 (by rw [natRowM_len]; unfold maxNum; omega) (by rw [natRowM_len]; omega) h4
  rw [natRowM_len] at this
  exact this
 simp only [getShard, e1, e2, e3, e4]
 rw [natRowM_back fun x hx => (h5 x hx).1]
 simp only [Int.toNat_of_nonneg hn, Int.toNat_of_nonneg h1, BitVec.ofNat_toNat, BitVec.setWidth_eq]
theorem getShards_put : ∀ (ss : List ShardM) (l : List UInt8), ss.all shardRight = true → (∀ s ∈ ss, 0 ≤ s.num ∧ s.num ≤ 1099511627776) → getShards ss.length (some (shardsB ss ++ l)) = (ss, some l)
 | [], _, _, _ => rfl
 | s :: r, l, h, hn => by
  simp only [List.all_cons, Bool.and_eq_true] at h
  have h1 := hn s (by simp)
  rw [List.length_cons, getShards, shardsB, List.append_assoc, getShard_put h.1 h1.1 h1.2]
  simp only
  rw [getShards_put r l h.2 fun x hx => hn x (by simp [hx])]
theorem mani_right {m : ManiM} (h : maniRight m = true) : 0 ≤ m.gen ∧ m.gen ≤ 1099511627776 ∧ m.shards.length ≤ 40 ∧ m.shards.all shardRight = true ∧ (∀ s ∈ m.shards, 0 ≤ s.num ∧ s.num ≤ 1099511627776) := by
 simp only [maniRight, headRight, Bool.and_eq_true, decide_eq_true_eq] at h
 obtain ⟨⟨⟨⟨h1, h2⟩, h3⟩, h4⟩, h5⟩ := h
 refine ⟨h1, h2, h3, h4, fun s hs => ?_⟩
 have := (riseB_rises m.gen 1 _ (by omega) h2 h5).2.2 s.num (List.mem_map.2 ⟨s, hs, rfl⟩)
 omega
theorem getM_put {m : ManiM} (h : maniRight m = true) : getM (maniB m) = some m := by
 obtain ⟨h1, h2, h3, h4, h5⟩ := mani_right h
 have e1 : num 1099511627776 (some (maniB m)) = (m.gen.toNat, some (enc m.shards.length ++ shardsB m.shards)) := num_enc _ _ _ (by unfold maxNum; omega) (by omega)
 have e2 : num 40 (some (enc m.shards.length ++ shardsB m.shards)) = (m.shards.length, some (shardsB m.shards)) := num_enc _ _ _ (by unfold maxNum; omega) (by omega)
 have e3 := getShards_put m.shards [] h4 h5
 rw [List.append_nil] at e3
 simp only [getM, e1, e2, e3, Int.toNat_of_nonneg h1]
 rw [if_pos ⟨trivial, h⟩]

/-! there is one way to put it -/
theorem riseGo_one (most : Int) : ∀ (k last : Nat) (l : List UInt8) (r : List Nat) (l' : List UInt8), riseGo most k last (some l) = (r, some l') → l = rb last r ++ l' ∧ Rises last r ∧ r.length = k ∧ ∀ n ∈ r, (n : Int) ≤ most
 | 0, last, l, r, l', h => by
  simp only [riseGo, Prod.mk.injEq, Option.some.injEq] at h
  obtain ⟨rfl, rfl⟩ := h
  exact ⟨rfl, trivial, rfl, fun n hn => by simp at hn⟩
 | k + 1, last, l, r, l', h => by
  rw [riseGo] at h
  split at h
  ·cases h
  ·rename_i m l1 hm
   obtain ⟨q1, q2, _⟩ := num_one hm
   split at h
   ·rename_i hc
    split at h
    ·cases h
    ·rename_i r2 l2 hr
     simp only [Prod.mk.injEq, Option.some.injEq] at h
     obtain ⟨rfl, rfl⟩ := h
     obtain ⟨p1, p2, p3, p4⟩ := riseGo_one most k (last + m + 1) l1 r2 l2 hr
     refine ⟨?_, ⟨by omega, hc.2, p2⟩, by simp [p3], fun n hn => ?_⟩
     ·rw [q1, p1, rb, Nat.add_sub_cancel_left, List.append_assoc]
     ·rcases List.mem_cons.1 hn with rfl | hn
      ·exact hc.1
      ·exact p4 n hn
   ·cases h
theorem rising_one {many most : Int} {l : List UInt8} {r : List Nat} {l' : List UInt8} (h : rising many most (some l) = (r, some l')) : l = enc r.length ++ rb 0 r ++ l' ∧ Rises 0 r ∧ (r.length : Int) ≤ many ∧ ∀ n ∈ r, (n : Int) ≤ most := by
 rw [rising] at h
 split at h
 ·cases h
 ·rename_i n l1 hn
  obtain ⟨q1, q2, q3⟩ := num_one hn
  obtain ⟨p1, p2, p3, p4⟩ := riseGo_one most n 0 l1 r l' h
  exact ⟨by rw [q1, p1, p3, List.append_assoc], p2, by omega, p4⟩
theorem getShards_none : ∀ k, (getShards k none).2 = none
 | 0 => rfl
 | k + 1 => by
  rw [getShards]
  have h := getShard_none
  split
  ·rfl
  ·rename_i l hl
   rw [h] at hl
   cases hl
end Go.Proofs.YtcimkoehcdfjdaaGreatDoor.WireM
