/-
  wire's Writer by the states of a writer; mudlarklaw02's bytes and ints; what becomes of a thing.
-/
import Derived.Test.YtcjbeaohmgfgoaaGreatThing
import Derived.Test.YtcjbeaohmgfgoaaGreatSame
import Derived.Test.YtcjbeaohmgfgoaaGreatQuiet
import Derived.Test.YtcjbeaohmgfgoaaGreatRText
import Derived.Test.YtcjbeaohmgfgoaaGreatVRising
import Derived.Test.YtcjbeaohmgfgoaaGreatWRising
import Derived.Test.YtcjbeaohmgfgoaaGreatWText
import Derived.Test.YtcjbeaohmgfgoaaGreatPick
namespace Go.Proofs.YtcjbeaohmgfgoaaGreat
open Go.RowKit WireM

def rowRight : Int → List Int → Bool
  | _, [] => true
  | last, x :: r => decide (last < x) && decide (x ≤ 1099511627776) && rowRight x r
def rightB (t : ThingM) : Bool := rowRight (-1) t.row && (decide (0 ≤ t.n) && decide (t.n ≤ 1099511627776))
/-- the cells of a thing, as one value -/
abbrev thingV (t : ThingM) (A1 : Option Addr) (n1 c1 : Nat) (A2 : Option Addr) (n2 c2 : Nat) : Value := .agg #[.int .i64 t.kind, .int .i64 t.n, .int .i64 t.many, .slice A1 n1 c1, .slice A2 n2 c2]
theorem drop_at {α : Type} {l : List α} {k : Nat} {x : α} (h : l[k]? = some x) : l.drop k = x :: l.drop (k + 1) := by
  obtain ⟨h1, h2⟩ := List.getElem?_eq_some_iff.1 h
  rw [List.drop_eq_getElem_cons h1, h2]

theorem bytes02_any (w : World) (B B2 : Nat) (A A2 : Option Addr) (n c n2 c2 : Nat) (l l2 : List UInt8) (hR : BytesAt w B A n l) (hR2 : BytesAt w B2 A2 n2 l2) (hc : n ≤ maxLen) (hc2 : n2 ≤ maxLen) :
    Calls Tryz.prog 43 #[.slice A n c, .slice A2 n2 c2] w fun e w' => e = .returned (.bool (sameL l l2)) ∧ ∃ q, w.drewN q = w' := by
  go_enter Tryz.func43, Tryz.ntmps43
  go_wp2_with fail
  refine (SameBytes_any w B B2 A A2 n c n2 c2 l l2 hR hR2 hc hc2).mono ?_
  rintro e w1 ⟨rfl, q, rfl⟩
  go_wp2
  go_ret
  exact ⟨rfl, q, rfl⟩
theorem ints02_any (w : World) (B B2 : Nat) (A A2 : Option Addr) (n c n2 c2 : Nat) (l l2 : List Int) (hR : IntsAt w B A n l) (hR2 : IntsAt w B2 A2 n2 l2) (hc : n ≤ maxLen) (hc2 : n2 ≤ maxLen) :
    Calls Tryz.prog 49 #[.slice A n c, .slice A2 n2 c2] w fun e w' => e = .returned (.bool (sameL l l2)) ∧ ∃ q, w.drewN q = w' := by
  go_enter Tryz.func49, Tryz.ntmps49
  go_wp2_with fail
  refine (SameInts_any w B B2 A A2 n c n2 c2 l l2 hR hR2 hc hc2).mono ?_
  rintro e w1 ⟨rfl, q, rfl⟩
  go_wp2
  go_ret
  exact ⟨rfl, q, rfl⟩
def u32of (x : Int) : BitVec 32 := BitVec.ofInt 32 x
theorem u32of_val (x : Int) : x % 4294967296 = ((u32of x).toNat : Int) := by
  rw [u32of, BitVec.toNat_ofInt]
  omega
theorem u32of_nat {x : Int} (h0 : 0 ≤ x) (h : x ≤ 1099511627776) : (u32of x).toNat = x.toNat % 4294967296 := by
  have := u32of_val x
  omega

theorem WNumber1_any (w : World) (B g : Nat) (v : Value) (l : List UInt8) (bad : Bool) (m tm : Nat) (x : Int) (hW : Wr 65 w B g v l bad) (hm : Blk w m tm #[.int .i64 x]) (hA : ¬ FootS g v m) (hl : l.length + 6 ≤ 140737488355328) :
    Calls Tryz.prog 9 #[.pointer (some ⟨g, 0, none⟩), .slice (some ⟨m, 0, none⟩) 1 1] w fun e w' => e = .returned (.tuple #[]) ∧ PutsTo 65 w B g v (putNum x (stOf l bad)) (l.length + 6) w' := by
  have hI : IntsAt w w.heap.size (some ⟨m, 0, none⟩) 1 [x] := ReadsAt.more hm.reads1 hm.lt
  refine (WNumber_any w B g v l bad _ 1 1 [x] hW hI (fun ad e => by injection e with e; subst e; exact hA) (by omega) (by simp only [maxLen]; omega)).mono ?_
  rintro e w' ⟨rfl, v', h1, h2⟩
  exact ⟨rfl, v', _, _, h1, h2, stOf_num rfl rfl, by rw [List.length_append]; have := news_len (bad := bad) (x := x) rfl rfl; omega⟩
theorem WFixed1_any (w : World) (B g : Nat) (v : Value) (l : List UInt8) (bad : Bool) (x : BitVec 32) (hW : Wr 65 w B g v l bad) (hl : l.length + 4 ≤ 140737488355328) :
    Calls Tryz.prog 10 #[.pointer (some ⟨g, 0, none⟩), .int .u32 (x.toNat : Int)] w fun e w' => e = .returned (.tuple #[]) ∧ PutsTo 65 w B g v (putFixed x.toNat (stOf l bad)) (l.length + 4) w' :=
  (WFixed_any w B g v l bad x hW hl).mono fun _ _ ⟨he, v', h1, h2⟩ => ⟨he, v', _, _, h1, h2, by cases bad <;> rfl, by rw [List.length_append]; exact Nat.le_refl _⟩
theorem WText1_any (w : World) (B g : Nat) (v : Value) (l : List UInt8) (bad : Bool) (m tm : Nat) (A : Option Addr) (n c : Nat) (b : List UInt8) (hW : Wr 65 w B g v l bad) (hm : Blk w m tm #[.slice A n c]) (hR : BytesAt w w.heap.size A n b) (hA : 0 < n → ∀ ad, A = some ad → ¬ FootS g v ad.block) (hl : l.length + 6 + n ≤ 140737488355328) :
    Calls Tryz.prog 11 #[.pointer (some ⟨g, 0, none⟩), .slice (some ⟨m, 0, none⟩) 1 1] w fun e w' => e = .returned (.tuple #[]) ∧ PutsTo 65 w B g v (putText b (stOf l bad)) (l.length + 6 + n) w' := by
  have hb := hR.len
  obtain ⟨nb, hnb⟩ : ∃ nb, nb = (bad || !fitsB [(n : Int)]) := ⟨_, rfl⟩
  obtain ⟨ne, hne⟩ : ∃ ne, ne = if nb then [] else encAll [(n : Int)] := ⟨_, rfl⟩
  have hne2 : ne = if nb then [] else enc n := by rw [hne]; simp [encAll]
  refine (WText_as w B g v l bad m tm A n c b hW hm hR hA hl (ne ++ b) nb (Lib.hid hnb) (Lib.hid (by rw [hne2]))).mono ?_
  rintro e w' ⟨rfl, v', h1, h2⟩
  refine ⟨rfl, v', _, _, h1, h2, ?_, ?_⟩
  · rw [← List.append_assoc, stOf_more, stOf_num hnb hne, putText, hb]
  · have := news_len hnb hne
    simp only [List.length_append]
    omega
theorem WRising1_any (w : World) (B g : Nat) (v : Value) (l : List UInt8) (bad : Bool) (A : Option Addr) (n c : Nat) (L : List Int) (hW : Wr 65 w B g v l bad) (hR : IntsAt w w.heap.size A n L) (hA : 0 < n → ∀ ad, A = some ad → ¬ FootS g v ad.block) (hl : l.length + 6 + 6 * n ≤ 140737488355328) :
    Calls Tryz.prog 12 #[.pointer (some ⟨g, 0, none⟩), .slice A n c] w fun e w' => e = .returned (.tuple #[]) ∧ PutsTo 65 w B g v (putRising L (stOf l bad)) (l.length + 6 + 6 * n) w' :=
  (WRising_any w B g v l bad A n c L hW hR hA hl).mono fun _ _ ⟨he, v', l', b', h1, h2, h3, h4⟩ => ⟨he, v', l', b', h1, h2, h3, h4⟩

theorem Pick_is (x n k : Int) (w : World) (hk : pickI x n = k) (h1 : -9223372036854775808 ≤ x) (h2 : x ≤ 9223372036854775807) (hn2 : n ≤ 9223372036854775807) :
    Calls Tryz.prog 38 #[.int .i64 x, .int .i64 n] w fun e w' => e = .returned (.int .i64 k) ∧ w = w' :=
  (Pick_any x n w h1 h2 hn2).mono fun _ _ ⟨he, hw⟩ => ⟨by rw [he, hk], hw⟩
def putThing (t : ThingM) (st : St) : St :=
  if pickI t.kind 4 = 0 then putNum t.n st else if pickI t.kind 4 = 1 then putFixed (u32of t.n).toNat st else if pickI t.kind 4 = 2 then putText t.b st else putRising t.row st

theorem ints_blk {w : World} {B : Nat} {l : List Int} {A2 : Option Addr} {n2 : Nat} (h : IntsAt w B A2 n2 l) (hn : 0 < n2) : ∀ ad, A2 = some ad → ad.block < B := fun ad e => by
  obtain ⟨b, off, e2, hb, _⟩ := h.at_ hn
  rw [e2] at e
  injection e with e
  subst e
  exact hb
theorem bytes_blk {w : World} {B : Nat} {l : List UInt8} {A2 : Option Addr} {n2 : Nat} (h : BytesAt w B A2 n2 l) (hn : 0 < n2) : ∀ ad, A2 = some ad → ad.block < B := fun ad e => by
  obtain ⟨b, off, e2, hb, _⟩ := h.at_ hn
  rw [e2] at e
  injection e with e
  subst e
  exact hb
/-- blocks are added first -/
theorem PutsTo.after {Tt : TypeId} {w w1 w' : World} {B g : Nat} {v : Value} {st : St} {len : Nat} (h : PutsTo Tt w1 B g v st len w') (hg : Grow w w1) : PutsTo Tt w B g v st len w' := by
  obtain ⟨v', l', b', h1, h2, h3, h4⟩ := h
  exact ⟨v', l', b', h1, (Foot.grow hg).trans h2, h3, h4⟩
theorem PutsTo.more {Tt : TypeId} {w w' : World} {B g : Nat} {v : Value} {st : St} {len len' : Nat} (h : PutsTo Tt w B g v st len w') (hl : len ≤ len') : PutsTo Tt w B g v st len' w' := by
  obtain ⟨v', l', b', h1, h2, h3, h4⟩ := h
  exact ⟨v', l', b', h1, h2, h3, Nat.le_trans h4 hl⟩

end Go.Proofs.YtcjbeaohmgfgoaaGreat
