/-
  A writer has come to a state: wire's Number and Fixed of one number.
-/
import Derived.Test.YtcimkoehcdfjdaaGreatDoorWNumber
import Derived.Test.YtcimkoehcdfjdaaGreatDoorWFixed
import Derived.Test.YtcimkoehcdfjdaaGreatDoorWBytes
namespace Go.Proofs.YtcimkoehcdfjdaaGreatDoor
open Go.RowKit WireM

theorem fits_one (x : Int) : fitsB [x] = decide (0 ≤ x ∧ x ≤ (maxNum : Int)) := by
 have e : fitsB [x] = (!(decide (x < 0) || decide (1099511627776 < x))) := by simp [fitsB, badB]
 rw [e]
 by_cases h : 0 ≤ x ∧ x ≤ (maxNum : Int)
 ·rw [decide_eq_true h]
  have a : ¬ x < 0 := by omega
  have b : ¬ 1099511627776 < x := by simp only [maxNum] at h; omega
  rw [decide_eq_false a, decide_eq_false b]
  rfl
 ·rw [decide_eq_false h]
  by_cases a : x < 0
  ·rw [decide_eq_true a]
   rfl
  ·have b : 1099511627776 < x := by simp only [maxNum] at h; omega
   rw [decide_eq_true b]
   simp
theorem bodyPost_ret0 {P : Program} {fn : Func} {R : Ending → World → Prop} {a : Act} {w : World} (hr : fn.results = #[]) (hd : a.defers = []) (hR : R (.returned (.tuple #[])) w) : bodyPost P fn R .ret a w :=
 bodyPost_ret (results_none hr _ _ _) hd hR
def PutsTo (Tt : TypeId) (w : World) (B g : Nat) (v : Value) (st : St) (len : Nat) (w' : World) : Prop := ∃ v' l' bad', Wr Tt w' B g v' l' bad' ∧ Foot w g v w' v' ∧ stOf l' bad' = st ∧ l'.length ≤ len
theorem stOf_num {l news : List UInt8} {bad nb : Bool} {x : Int} (hnb : nb = (bad || !fitsB [x])) (hnews : news = if nb then [] else encAll [x]) : stOf (l ++ news) nb = putNum x (stOf l bad) := by
 rw [fits_one] at hnb
 cases bad with
 | true =>
  obtain rfl : nb = true := by simpa using hnb
  rfl
 | false =>
  by_cases hx : 0 ≤ x ∧ x ≤ (maxNum : Int)
  ·obtain rfl : nb = false := by simpa [hx] using hnb
   subst hnews
   simp [stOf, putNum, hx, encAll]
  ·obtain rfl : nb = true := by simpa [hx] using hnb
   simp [stOf, putNum, hx]
theorem news_len {bad nb : Bool} {x : Int} {news : List UInt8} (hnb : nb = (bad || !fitsB [x])) (hnews : news = if nb then [] else encAll [x]) : news.length ≤ 6 := by
 cases nb with
 | true => rw [hnews]; simp
 | false =>
  have hf : fitsB [x] = true := by
   cases hfb : fitsB [x] with
   | true => rfl
   | false => rw [hfb] at hnb; simp at hnb
  have := encAll_len _ (fits_le hf)
  rw [hnews]
  simpa using this
theorem WNumber1_any (w : World) (B g : Nat) (v : Value) (l : List UInt8) (bad : Bool) (m tm : Nat) (x : Int) (hW : Wr 67 w B g v l bad) (hm : Blk w m tm #[.int .i64 x]) (hA : ¬ FootS g v m) (hl : l.length + 6 ≤ 140737488355328) :
  Calls Tryz.prog 32 #[.pointer (some ⟨g, 0, none⟩), .slice (some ⟨m, 0, none⟩) 1 1] w fun e w' => e = .returned (.tuple #[]) ∧ PutsTo 67 w B g v (putNum x (stOf l bad)) (l.length + 6) w' := by
 have hI : IntsAt w w.heap.size (some ⟨m, 0, none⟩) 1 [x] := ReadsAt.more hm.reads1 hm.lt
 refine (WNumber_any w B g v l bad _ 1 1 [x] hW hI (fun ad e => by injection e with e; subst e; exact hA) (by omega) (by simp only [maxLen]; omega)).mono ?_
 rintro e w' ⟨rfl, v', h1, h2⟩
 exact ⟨rfl, v', _, _, h1, h2, stOf_num rfl rfl, by rw [List.length_append]; have := news_len (bad := bad) (x := x) rfl rfl; omega⟩
theorem bytes_blk {w : World} {B : Nat} {l : List UInt8} {A2 : Option Addr} {n2 : Nat} (h : BytesAt w B A2 n2 l) (hn : 0 < n2) : ∀ ad, A2 = some ad → ad.block < B := fun ad e => by
 obtain ⟨b, off, e2, hb, _⟩ := h.at_ hn
 rw [e2] at e
 injection e with e
 subst e
 exact hb
end Go.Proofs.YtcimkoehcdfjdaaGreatDoor
