/-
  Plain mathematics of layer 3 (frame): what a file of parts is as bytes, what is got of bytes, and that what is put is got, in one way, and not with a burst in it, cut, or with more behind.
-/
import Derived.Test.YtcimkoehcdfjdaaGreatDoorBaseB
import Derived.Test.YtcimkoehcdfjdaaGreatDoorWFixed
import Derived.Test.YtcimkoehcdfjdaaGreatDoorWNumber
import Derived.Test.YtcimkoehcdfjdaaGreatDoorCrcMath
namespace Go.Proofs.YtcimkoehcdfjdaaGreatDoor
open Go.RowKit WireM

def partB (t : PartM) : List UInt8 := t.tag :: (enc t.b.length ++ t.b)
def bodyB : List PartM → List UInt8
 | [] => []
 | t :: r => partB t ++ bodyB r
theorem bodyB_append (a b : List PartM) : bodyB (a ++ b) = bodyB a ++ bodyB b := by
 induction a with
 | nil => rfl
 | cons x a ih => simp only [List.cons_append, bodyB, ih, List.append_assoc]
theorem bodyB_succ {ts : List PartM} {k : Nat} {t : PartM} (h : ts[k]? = some t) : bodyB (ts.take (k + 1)) = bodyB (ts.take k) ++ partB t := by
 rw [List.take_add_one, h, bodyB_append]
 simp [bodyB]
def headB (ts : List PartM) : List UInt8 := fourB (BitVec.ofNat 32 (8 + (bodyB ts).length)) ++ bodyB ts
def fileB (ts : List PartM) : List UInt8 := headB ts ++ fourB (CrcM.sum (headB ts))
theorem fourB_len (x : BitVec 32) : (fourB x).length = 4 := rfl
theorem headB_len (ts : List PartM) : (headB ts).length = 4 + (bodyB ts).length := by rw [headB, List.length_append, fourB_len]
theorem fileB_len (ts : List PartM) : (fileB ts).length = 8 + (bodyB ts).length := by rw [fileB, List.length_append, headB_len, fourB_len]; omega

theorem text_less {most : Int} {l b r : List UInt8} (h : text most (some l) = (b, some r)) : r.length < l.length := by
 have h1 := (text_one h).1
 have h2 := enc_ne b.length
 rw [h1]
 simp only [List.length_append]
 have := List.length_pos_iff.2 h2
 omega
def partsL : List UInt8 → Option (List PartM)
 | [] => some []
 | tag :: r => match _h : text 67108864 (some r) with
  | (_, none) => none
  | (b, some r') => (partsL r').map fun ts => ⟨tag, b⟩ :: ts
termination_by l => l.length
decreasing_by have := text_less _h; simp; omega
theorem partsL_nil : partsL [] = some [] := by rw [partsL]
theorem partsL_no {tag : UInt8} {r b : List UInt8} (h : text 67108864 (some r) = (b, none)) : partsL (tag :: r) = none := by
 rw [partsL]
 split
 ·rfl
 ·rename_i h2; rw [h] at h2; cases h2
theorem partsL_yes {tag : UInt8} {r b r' : List UInt8} (h : text 67108864 (some r) = (b, some r')) : partsL (tag :: r) = (partsL r').map fun ts => ⟨tag, b⟩ :: ts := by
 rw [partsL]
 split
 ·rename_i h2; rw [h] at h2; cases h2
 ·rename_i h2; rw [h] at h2; cases h2; rfl
theorem partsL_body : ∀ (ts : List PartM), (bodyB ts).length ≤ 67108864 → partsL (bodyB ts) = some ts
 | [], _ => partsL_nil
 | t :: r, h => by
  simp only [bodyB, partB, List.cons_append, List.length_cons, List.length_append] at h
  have e : text 67108864 (some (enc t.b.length ++ t.b ++ bodyB r)) = (t.b, some (bodyB r)) := text_put t.b 67108864 (bodyB r) (by simp only [maxNum]; omega) (by omega)
  simp only [bodyB, partB, List.cons_append]
  rw [partsL_yes e, partsL_body r (by omega)]
  rfl
theorem partsL_one : ∀ (l : List UInt8) (ts : List PartM), partsL l = some ts → l = bodyB ts := fun l => by
 induction h : l.length using Nat.strongRecOn generalizing l with
 | ind n ih =>
  intro ts ht
  cases l with
  | nil => rw [partsL_nil] at ht; cases ht; rfl
  | cons tag r =>
   rcases hq : text 67108864 (some r) with ⟨b, st⟩
   cases st with
   | none => rw [partsL_no hq] at ht; cases ht
   | some r' =>
    rw [partsL_yes hq] at ht
    cases hp : partsL r' with
    | none => rw [hp] at ht; cases ht
    | some ts' =>
     rw [hp] at ht
     simp only [Option.map_some, Option.some.injEq] at ht
     subst ht
     have hl := text_less hq
     have h1 := ih r'.length (by rw [← h]; simp; omega) r' rfl ts' hp
     have h2 := (text_one hq).1
     simp only [bodyB, partB, List.cons_append]
     rw [h2, ← h1]

def sumOk (l : List UInt8) : Prop := 8 ≤ l.length ∧ l.length ≤ 67108864 ∧ (fixed (some l)).1 = l.length ∧ (fixed (some (l.drop (l.length - 4)))).1 = (CrcM.sum (l.take (l.length - 4))).toNat
instance (l : List UInt8) : Decidable (sumOk l) := by unfold sumOk; infer_instance
def getB (l : List UInt8) : Option (List PartM) := if sumOk l then partsL ((l.take (l.length - 4)).drop 4) else none

theorem fixed_four (n : BitVec 32) (l : List UInt8) : fixed (some (fourB n ++ l)) = (n.toNat, some l) := fixed_put n.toNat n.isLt l
theorem four_of_fixed {l : List UInt8} {n : BitVec 32} (hl : 4 ≤ l.length) (h : (fixed (some l)).1 = n.toNat) : l = fourB n ++ l.drop 4 := by
 match l, hl with
 | a :: b :: c :: d :: r, _ =>
  simp only [fixed] at h
  have ha := a.toNat_lt
  have hb := b.toNat_lt
  have hc := c.toNat_lt
  have hd := d.toNat_lt
  have e0 : UInt8.ofNat n.toNat = a := by rw [← UInt8.toNat_inj, UInt8.toNat_ofNat', ← h]; omega
  have e1 : UInt8.ofNat (n.toNat / 256) = b := by rw [← UInt8.toNat_inj, UInt8.toNat_ofNat', ← h]; omega
  have e2 : UInt8.ofNat (n.toNat / 65536) = c := by rw [← UInt8.toNat_inj, UInt8.toNat_ofNat', ← h]; omega
  have e3 : UInt8.ofNat (n.toNat / 16777216) = d := by rw [← UInt8.toNat_inj, UInt8.toNat_ofNat', ← h]; omega
  simp [fourB, e0, e1, e2, e3]
theorem file_take (ts : List PartM) : (fileB ts).take ((fileB ts).length - 4) = headB ts := by
 rw [fileB_len, fileB]
 have e : 8 + (bodyB ts).length - 4 = (headB ts).length := by rw [headB_len]; omega
 rw [e, List.take_left]
theorem file_drop (ts : List PartM) : (fileB ts).drop ((fileB ts).length - 4) = fourB (CrcM.sum (headB ts)) := by
 rw [fileB_len, fileB]
 have e : 8 + (bodyB ts).length - 4 = (headB ts).length := by rw [headB_len]; omega
 rw [e, List.drop_left]
theorem file_head (ts : List PartM) : ∃ r, fileB ts = fourB (BitVec.ofNat 32 (8 + (bodyB ts).length)) ++ r := ⟨_, by rw [fileB, headB, List.append_assoc]⟩
theorem file_ok (ts : List PartM) (h : (fileB ts).length ≤ 67108864) : sumOk (fileB ts) := by
 have hl := fileB_len ts
 refine ⟨by omega, h, ?_, ?_⟩
 ·obtain ⟨r, hr⟩ := file_head ts
  rw [hl, hr, fixed_four]
  simp only [BitVec.toNat_ofNat]
  omega
 ·rw [file_drop, file_take]
  have := fixed_four (CrcM.sum (headB ts)) []
  rw [List.append_nil] at this
  rw [this]
theorem get_file (ts : List PartM) (h : (fileB ts).length ≤ 67108864) : getB (fileB ts) = some ts := by
 rw [getB, if_pos (file_ok ts h), file_take]
 have e : (headB ts).drop 4 = bodyB ts := by
  have : (fourB (BitVec.ofNat 32 (8 + (bodyB ts).length))).length = 4 := rfl
  rw [headB, ← this, List.drop_left]
 rw [e]
 exact partsL_body ts (by rw [fileB_len] at h; omega)
theorem ok_form {l : List UInt8} (h : sumOk l) : l.take (l.length - 4) = fourB (BitVec.ofNat 32 l.length) ++ (l.take (l.length - 4)).drop 4 ∧ l = l.take (l.length - 4) ++ fourB (CrcM.sum (l.take (l.length - 4))) := by
 obtain ⟨h1, h2, h3, h4⟩ := h
 have e1 : (BitVec.ofNat 32 l.length).toNat = l.length := by simp only [BitVec.toNat_ofNat]; omega
 have e2 := four_of_fixed (l := l) (n := BitVec.ofNat 32 l.length) (by omega) (by rw [h3, e1])
 have e3 := four_of_fixed (l := l.drop (l.length - 4)) (n := CrcM.sum (l.take (l.length - 4))) (by simp; omega) h4
 have e5 : l.drop (l.length - 4 + 4) = [] := List.drop_eq_nil_iff.2 (by omega)
 rw [List.drop_drop, e5, List.append_nil] at e3
 refine ⟨?_, ?_⟩
 ·have e4 : (l.take (l.length - 4)).take 4 = fourB (BitVec.ofNat 32 l.length) := by
   have e6 : l.take 4 = fourB (BitVec.ofNat 32 l.length) := by
    have e7 : (fourB (BitVec.ofNat 32 l.length) ++ l.drop 4).take 4 = fourB (BitVec.ofNat 32 l.length) := rfl
    rw [← e7]
    exact congrArg (List.take 4) e2
   rw [List.take_take, Nat.min_eq_left (by omega), e6]
  rw [← e4, List.take_append_drop]
 ·rw [← e3, List.take_append_drop]
theorem get_one {l : List UInt8} {ts : List PartM} (h : getB l = some ts) : l = fileB ts := by
 unfold getB at h
 split at h
 ·rename_i hs
  obtain ⟨e1, e2⟩ := ok_form hs
  have e3 := partsL_one _ _ h
  have hh : l.take (l.length - 4) = headB ts := by
   rw [headB, ← e3]
   have : 8 + ((l.take (l.length - 4)).drop 4).length = l.length := by
    have := hs.1
    simp
    omega
   rw [this]
   exact e1
  rw [fileB, ← hh]
  exact e2
 ·cases h

/-! ### damage -/
end Go.Proofs.YtcimkoehcdfjdaaGreatDoor
