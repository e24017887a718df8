/-
  wire's Writer by the states of a writer; the walks of mudlarklaw02's puts and put.
-/
import Derived.Test.YtcjbeaohmgfgoaaRight
import Derived.Test.YtcjbeaohmgfgoaaVRising
import Derived.Test.YtcjbeaohmgfgoaaWRising
import Derived.Test.YtcjbeaohmgfgoaaWText
import Derived.Test.YtcjbeaohmgfgoaaPick
namespace Go.Proofs.Ytcjbeaohmgfgoaa
open Go.RowKit WireM

def u32of (x : Int) : BitVec 32 := BitVec.ofInt 32 x
theorem u32of_val (x : Int) : x % 4294967296 = ((u32of x).toNat : Int) := by
  rw [u32of, BitVec.toNat_ofInt]
  omega
theorem u32of_nat {x : Int} (h0 : 0 ≤ x) (h : x ≤ 1099511627776) : (u32of x).toNat = x.toNat % 4294967296 := by
  have := u32of_val x
  omega

theorem WNumber1_any (w : World) (B g : Nat) (v : Value) (l : List UInt8) (bad : Bool) (m tm : Nat) (x : Int) (hW : Wr 47 w B g v l bad) (hm : Blk w m tm #[.int .i64 x]) (hA : ¬ FootS g v m) (hl : l.length + 6 ≤ 140737488355328) :
    Calls Try.prog 53 #[.pointer (some ⟨g, 0, none⟩), .slice (some ⟨m, 0, none⟩) 1 1] w fun e w' => e = .returned (.tuple #[]) ∧ PutsTo 47 w B g v (putNum x (stOf l bad)) (l.length + 6) w' := by
  have hI : IntsAt w w.heap.size (some ⟨m, 0, none⟩) 1 [x] := ReadsAt.more hm.reads1 hm.lt
  refine (WNumber_any w B g v l bad _ 1 1 [x] hW hI (fun ad e => by injection e with e; subst e; exact hA) (by omega) (by simp only [maxLen]; omega)).mono ?_
  rintro e w' ⟨rfl, v', h1, h2⟩
  exact ⟨rfl, v', _, _, h1, h2, stOf_num rfl rfl, by rw [List.length_append]; have := news_len (bad := bad) (x := x) rfl rfl; omega⟩
theorem WFixed1_any (w : World) (B g : Nat) (v : Value) (l : List UInt8) (bad : Bool) (x : BitVec 32) (hW : Wr 47 w B g v l bad) (hl : l.length + 4 ≤ 140737488355328) :
    Calls Try.prog 55 #[.pointer (some ⟨g, 0, none⟩), .int .u32 (x.toNat : Int)] w fun e w' => e = .returned (.tuple #[]) ∧ PutsTo 47 w B g v (putFixed x.toNat (stOf l bad)) (l.length + 4) w' :=
  (WFixed_any w B g v l bad x hW hl).mono fun _ _ ⟨he, v', h1, h2⟩ => ⟨he, v', _, _, h1, h2, by cases bad <;> rfl, by rw [List.length_append]; exact Nat.le_refl _⟩
theorem WText1_any (w : World) (B g : Nat) (v : Value) (l : List UInt8) (bad : Bool) (m tm : Nat) (A : Option Addr) (n c : Nat) (b : List UInt8) (hW : Wr 47 w B g v l bad) (hm : Blk w m tm #[.slice A n c]) (hR : BytesAt w w.heap.size A n b) (hA : 0 < n → ∀ ad, A = some ad → ¬ FootS g v ad.block) (hl : l.length + 6 + n ≤ 140737488355328) :
    Calls Try.prog 57 #[.pointer (some ⟨g, 0, none⟩), .slice (some ⟨m, 0, none⟩) 1 1] w fun e w' => e = .returned (.tuple #[]) ∧ PutsTo 47 w B g v (putText b (stOf l bad)) (l.length + 6 + n) w' := by
  have hb := hR.len
  obtain ⟨nb, hnb⟩ : ∃ nb, nb = (bad || !fitsB [(n : Int)]) := ⟨_, rfl⟩
  obtain ⟨ne, hne⟩ : ∃ ne, ne = if nb then [] else encAll [(n : Int)] := ⟨_, rfl⟩
  have hne2 : ne = if nb then [] else enc n := by rw [hne]; simp [encAll]
  refine (WText_as w B g v l bad m tm A n c b hW hm hR hA hl (ne ++ b) nb (Lib.hid hnb) (Lib.hid (by rw [hne2]))).mono ?_
  rintro e w' ⟨rfl, v', h1, h2⟩
  refine ⟨rfl, v', _, _, h1, h2, ?_, ?_⟩
  · rw [← List.append_assoc, stOf_more, stOf_num hnb hne, putText, hb]
  · have := news_len hnb hne
    simp only [List.length_append]
    omega
theorem WRising1_any (w : World) (B g : Nat) (v : Value) (l : List UInt8) (bad : Bool) (A : Option Addr) (n c : Nat) (L : List Int) (hW : Wr 47 w B g v l bad) (hR : IntsAt w w.heap.size A n L) (hA : 0 < n → ∀ ad, A = some ad → ¬ FootS g v ad.block) (hl : l.length + 6 + 6 * n ≤ 140737488355328) :
    Calls Try.prog 51 #[.pointer (some ⟨g, 0, none⟩), .slice A n c] w fun e w' => e = .returned (.tuple #[]) ∧ PutsTo 47 w B g v (putRising L (stOf l bad)) (l.length + 6 + 6 * n) w' :=
  (WRising_any w B g v l bad A n c L hW hR hA hl).mono fun _ _ ⟨he, v', l', b', h1, h2, h3, h4⟩ => ⟨he, v', l', b', h1, h2, h3, h4⟩

theorem Pick_is (x n k : Int) (w : World) (hk : pickI x n = k) (h1 : -9223372036854775808 ≤ x) (h2 : x ≤ 9223372036854775807) (hn2 : n ≤ 9223372036854775807) :
    Calls Try.prog 12 #[.int .i64 x, .int .i64 n] w fun e w' => e = .returned (.int .i64 k) ∧ w = w' :=
  (Pick_any x n w h1 h2 hn2).mono fun _ _ ⟨he, hw⟩ => ⟨by rw [he, hk], hw⟩
def putThing (t : ThingM) (st : St) : St :=
  if pickI t.kind 4 = 0 then putNum t.n st else if pickI t.kind 4 = 1 then putFixed (u32of t.n).toNat st else if pickI t.kind 4 = 2 then putText t.b st else putRising t.row st

theorem ints_blk {w : World} {B : Nat} {l : List Int} {A2 : Option Addr} {n2 : Nat} (h : IntsAt w B A2 n2 l) (hn : 0 < n2) : ∀ ad, A2 = some ad → ad.block < B := fun ad e => by
  obtain ⟨b, off, e2, hb, _⟩ := h.at_ hn
  rw [e2] at e
  injection e with e
  subst e
  exact hb
theorem bytes_blk {w : World} {B : Nat} {l : List UInt8} {A2 : Option Addr} {n2 : Nat} (h : BytesAt w B A2 n2 l) (hn : 0 < n2) : ∀ ad, A2 = some ad → ad.block < B := fun ad e => by
  obtain ⟨b, off, e2, hb, _⟩ := h.at_ hn
  rw [e2] at e
  injection e with e
  subst e
  exact hb
/-- blocks are added first -/
theorem PutsTo.after {Tt : TypeId} {w w1 w' : World} {B g : Nat} {v : Value} {st : St} {len : Nat} (h : PutsTo Tt w1 B g v st len w') (hg : Grow w w1) : PutsTo Tt w B g v st len w' := by
  obtain ⟨v', l', b', h1, h2, h3, h4⟩ := h
  exact ⟨v', l', b', h1, (Foot.grow hg).trans h2, h3, h4⟩
theorem PutsTo.more {Tt : TypeId} {w w' : World} {B g : Nat} {v : Value} {st : St} {len len' : Nat} (h : PutsTo Tt w B g v st len w') (hl : len ≤ len') : PutsTo Tt w B g v st len' w' := by
  obtain ⟨v', l', b', h1, h2, h3, h4⟩ := h
  exact ⟨v', l', b', h1, h2, h3, Nat.le_trans h4 hl⟩

set_option maxRecDepth 100000 in
set_option maxHeartbeats 2000000 in
theorem puts_any (w : World) (B g : Nat) (v : Value) (l : List UInt8) (bad : Bool) (t : ThingM) (A1 : Option Addr) (n1 c1 : Nat) (A2 : Option Addr) (n2 c2 : Nat) (hW : Wr 47 w B g v l bad)
    (hR1 : BytesAt w B A1 n1 t.b) (hR2 : IntsAt w B A2 n2 t.row) (hBz : B ≤ w.heap.size) (hk : -9223372036854775808 ≤ t.kind) (hk2 : t.kind ≤ 9223372036854775807) (hl : l.length + 6 + n1 + 6 * n2 ≤ 140737488355328) (st : St) (Hst : Hid (st = putThing t (stOf l bad))) :
    Calls Try.prog 28 #[.pointer (some ⟨g, 0, none⟩), thingV t A1 n1 c1 A2 n2 c2] w fun e w' => e = .returned (.tuple #[]) ∧ PutsTo 47 w B g v st (l.length + 6 + n1 + 6 * n2) w' := by
  obtain ⟨W0, hW0⟩ : ∃ W0, w.alloc (.cells #[.int .i64 t.kind, .int .i64 t.n, .int .i64 t.many, .slice A1 n1 c1, .slice A2 n2 c2] 51) = W0 := ⟨_, rfl⟩
  have hG : Grow w W0 := by rw [← hW0]; exact Grow.alloc _ _
  have hb : Blk W0 w.heap.size 51 #[.int .i64 t.kind, .int .i64 t.n, .int .i64 t.many, .slice A1 n1 c1, .slice A2 n2 c2] := by rw [← hW0]; exact Blk.new _ _ _
  have hc0 := hb.cell 0
  have hc1 := hb.cell 1
  have hc3 := hb.cell 3
  have hc4 := hb.cell 4
  have hWr0 := hW.grow hG
  have hz0 : w.heap.size < W0.heap.size := hb.lt
  have hB0 : B ≤ W0.heap.size := by omega
  have hR1' : BytesAt W0 B A1 n1 t.b := ReadsAt.keep hR1 fun p hp => hG.cell (Nat.lt_of_lt_of_le hp hBz)
  have hR2' : IntsAt W0 B A2 n2 t.row := ReadsAt.keep hR2 fun p hp => hG.cell (Nat.lt_of_lt_of_le hp hBz)
  have hp0 := pickI_nonneg t.kind 4
  have hp4 := pickI_lt t.kind 4 (by omega)
  have ne : ∀ m, W0.heap.size ≤ m → ¬ FootS g v m := fun m hm => hWr0.old hm
  have Hne := Lib.hid ne
  have hp : pickI t.kind 4 = 0 ∨ pickI t.kind 4 = 1 ∨ pickI t.kind 4 = 2 ∨ pickI t.kind 4 = 3 := by omega
  have HW0 := Lib.hid hW0
  clear hp0 hp4 hb hR1 hR2 ne hW0
  have HzE := Lib.hid (show W0.heap.size = w.heap.size + 1 by rw [← HW0.out]; simp)
  have hGt : ∀ w1, Grow W0 w1 → Grow w w1 := fun w1 h => hG.trans h
  have HG := Lib.hid hGt
  clear hGt
  rcases hp with hp | hp | hp | hp
  · have HS : Hid (st = putNum t.n (stOf l bad)) := by show _ = _; rw [Hst.out, putThing, if_pos hp]
    have Hp := Lib.hid hp
    clear hp
    go_enter Try.func28, Try.ntmps28
    go_wp2_with (go_at_call 12; refine (Pick_is t.kind 4 0 _ Hp.out hk hk2 (by omega)).mono ?_; rintro e w' ⟨rfl, rfl⟩)
    rw [HW0.out]
    have hm := Blk.new W0 3 #[.int .i64 t.n]
    have hn := Hne.out _ (Nat.le_refl _)
    rw [HzE.out] at hm hn
    refine (WNumber1_any _ B g v l bad _ _ t.n (hWr0.grow (Grow.alloc _ _)) hm hn (by omega)).mono ?_
    rintro e w1 ⟨rfl, h1⟩
    rw [← HS.out] at h1
    have h2 := (h1.after (HG.out _ (Grow.alloc _ _))).more (len' := l.length + 6 + n1 + 6 * n2) (by omega)
    clear h1 hm hn
    go_wp2
    (try simp only [Exit.inBlock, Exit.then])
    exact Go.Great.bodyPost_end0 rfl rfl ⟨rfl, h2⟩
  · have HS : Hid (st = putFixed (u32of t.n).toNat (stOf l bad)) := by show _ = _; rw [Hst.out, putThing, if_neg (by omega), if_pos hp]
    have Hp := Lib.hid hp
    clear hp
    go_enter Try.func28, Try.ntmps28
    go_wp2_with (go_at_call 12; refine (Pick_is t.kind 4 1 _ Hp.out hk hk2 (by omega)).mono ?_; rintro e w' ⟨rfl, rfl⟩)
    rw [HW0.out, u32of_val]
    refine (WFixed1_any _ B g v l bad (u32of t.n) hWr0 (by omega)).mono ?_
    rintro e w1 ⟨rfl, h1⟩
    rw [← HS.out] at h1
    have h2 := (h1.after hG).more (len' := l.length + 6 + n1 + 6 * n2) (by omega)
    clear h1
    go_wp2
    (try simp only [Exit.inBlock, Exit.then])
    exact Go.Great.bodyPost_end0 rfl rfl ⟨rfl, h2⟩
  · have HS : Hid (st = putText t.b (stOf l bad)) := by show _ = _; rw [Hst.out, putThing, if_neg (by omega), if_neg (by omega), if_pos hp]
    have Hp := Lib.hid hp
    clear hp
    go_enter Try.func28, Try.ntmps28
    go_wp2_with (go_at_call 12; refine (Pick_is t.kind 4 2 _ Hp.out hk hk2 (by omega)).mono ?_; rintro e w' ⟨rfl, rfl⟩)
    rw [HW0.out]
    have hm := Blk.new W0 22 #[.slice A1 n1 c1]
    have hAf : 0 < n1 → ∀ ad, A1 = some ad → ¬ FootS g v ad.block := fun h0 ad e hf => by
      have h1 := bytes_blk hR1' h0 ad e
      have h2 := hWr0.ge _ hf
      omega
    rw [HzE.out] at hm
    refine (WText1_any _ B g v l bad _ _ A1 n1 c1 t.b (hWr0.grow (Grow.alloc _ _)) hm (ReadsAt.more (ReadsAt.keep hR1' fun p hp => (Grow.alloc _ _).cell (Nat.lt_of_lt_of_le hp hB0)) (by simp; omega)) hAf (by omega)).mono ?_
    rintro e w1 ⟨rfl, h1⟩
    rw [← HS.out] at h1
    have h2 := (h1.after (HG.out _ (Grow.alloc _ _))).more (len' := l.length + 6 + n1 + 6 * n2) (by omega)
    clear h1 hm
    go_wp2
    (try simp only [Exit.inBlock, Exit.then])
    exact Go.Great.bodyPost_end0 rfl rfl ⟨rfl, h2⟩
  · have HS : Hid (st = putRising t.row (stOf l bad)) := by show _ = _; rw [Hst.out, putThing, if_neg (by omega), if_neg (by omega), if_neg (by omega)]
    have Hp := Lib.hid hp
    clear hp
    go_enter Try.func28, Try.ntmps28
    go_wp2_with (go_at_call 12; refine (Pick_is t.kind 4 3 _ Hp.out hk hk2 (by omega)).mono ?_; rintro e w' ⟨rfl, rfl⟩)
    rw [HW0.out]
    have hAf : 0 < n2 → ∀ ad, A2 = some ad → ¬ FootS g v ad.block := fun h0 ad e hf => by
      have h1 := ints_blk hR2' h0 ad e
      have h2 := hWr0.ge _ hf
      omega
    refine (WRising1_any _ B g v l bad A2 n2 c2 t.row hWr0 (ReadsAt.more hR2' hB0) hAf (by omega)).mono ?_
    rintro e w1 ⟨rfl, h1⟩
    rw [← HS.out] at h1
    have h2 := (h1.after hG).more (len' := l.length + 6 + n1 + 6 * n2) (by omega)
    clear h1 hAf
    go_wp2
    (try simp only [Exit.inBlock, Exit.then])
    exact Go.Great.bodyPost_end0 rfl rfl ⟨rfl, h2⟩
end Go.Proofs.Ytcjbeaohmgfgoaa
