/-
  A writer in memory: a struct of a row of bytes, which the writer owns, and a mark that says whether it has failed. Tt: the struct's type. No program is in sight, but for the numbers of types.
  The walks of wire.fits (whether numbers are such) and what it calls.
  The walks of wire.septets: the closure that goes through a number's bytes.
  Two steps of a fenced walk: a whole array (or struct) read out of, or stored into, a block that is known whole.
-/
import Derived.Test.YtamdejidkgnaeaaBaseC
import Derived.Test.YtamdejidkgnaeaaWireMath
import Derived.Test.YtamdejidkgnaeaaMarks
import Derived.Test.YtamdejidkgnaeaaBaseA
import Derived.Test.YtamdejidkgnaeaaProg
import Derived.Outline
import Derived.Shelf.Abstract
import Derived.Shelf.RegionOpen
import Derived.OwnWalkIn
import Derived.TacticsInMore
import Derived.LoopNIn
import Derived.LoopIn
import Derived.Lib.Hide
import Derived.Test.YtamdejidkgnaeaaRange
import Derived.Laws.Rows
import Derived.Laws.Tables
namespace Go.Proofs.Ytamdejidkgnaeaa
open Go.RowKit WireM

/-- at block g lies a writer: its slice v owns the bytes l -/
structure Wr (Tt : TypeId) (w : World) (B g : Nat) (v : Value) (l : List UInt8) (bad : Bool) : Prop where
  cell : Blk w g Tt #[v, .bool bad]
  own : w.ownsRow B 5 1 v l.length (l.map b8)
  base : B ≤ g
/-- what a writer may turn -/
def FootS (g : Nat) (v : Value) : Nat → Prop := fun k => k = g ∨ v.ownBlock = some k
/-- from one state of a writer to a later one -/
structure Foot (w : World) (g : Nat) (v : Value) (w' : World) (v' : Value) : Prop where
  keep : Keep (FootS g v) w w'
  at_ : v'.ownBlock = v.ownBlock ∨ ∃ m, v'.ownBlock = some m ∧ w.heap.size ≤ m

def stOf (l : List UInt8) (bad : Bool) : St := if bad then none else some l
theorem stOf_false (l : List UInt8) : stOf l false = some l := rfl
theorem stOf_true (l : List UInt8) : stOf l true = none := rfl

section
variable {Tt : TypeId} {w w1 w2 : World} {B g : Nat} {v v1 v2 : Value} {l : List UInt8} {bad : Bool}
theorem Foot.refl (w : World) (g : Nat) (v : Value) : Foot w g v w v := ⟨Keep.refl _ _, Or.inl rfl⟩
theorem Foot.trans (h : Foot w g v w1 v1) (k : Foot w1 g v1 w2 v2) : Foot w g v w2 v2 := by
  refine ⟨h.keep.trans k.keep fun j hj => ?_, ?_⟩
  · rcases hj with rfl | hj
    · exact Or.inl (Or.inl rfl)
    · rcases h.at_ with e | ⟨m, e, hm⟩
      · exact Or.inl (Or.inr (by rw [← e]; exact hj))
      · rw [e] at hj
        injection hj with hj
        right; omega
  · rcases k.at_ with e | ⟨m, e, hm⟩
    · rw [e]
      exact h.at_
    · exact Or.inr ⟨m, e, Nat.le_trans h.keep.size hm⟩
theorem Foot.grow (h : Grow w w1) : Foot w g v w1 v := ⟨Keep.grow h, Or.inl rfl⟩
theorem Wr.grow (h : Wr Tt w B g v l bad) (hg : Grow w w1) : Wr Tt w1 B g v l bad := ⟨h.cell.below hg h.cell.lt, own_below h.own hg, h.base⟩
theorem Wr.lt (h : Wr Tt w B g v l bad) : ∀ k, FootS g v k → k < w.heap.size := by
  rintro k (rfl | hk)
  · exact h.cell.lt
  · exact (h.own.lt k hk).2
theorem Wr.ge (h : Wr Tt w B g v l bad) : ∀ k, FootS g v k → B ≤ k := by
  rintro k (rfl | hk)
  · exact h.base
  · exact (h.own.lt k hk).1
theorem Wr.ne (h : Wr Tt w B g v l bad) (hT : Tt ≠ 5) : v.ownBlock ≠ some g := fun e => by
  obtain ⟨cur, hc⟩ := own_obj h.own e
  have := h.cell
  unfold Blk at this
  rw [this] at hc
  injection hc with hc
  injection hc with _ hc
  exact hT hc
/-- a block that is no writer's -/
theorem Wr.other (h : Wr Tt w B g v l bad) {k t : Nat} {cs : Array Value} (hb : Blk w k t cs) (h1 : t ≠ 5) (h2 : k ≠ g) : ¬ FootS g v k := by
  rintro (rfl | hk)
  · exact h2 rfl
  · obtain ⟨cur, hc⟩ := own_obj h.own hk
    unfold Blk at hb
    rw [hb] at hc
    injection hc with hc
    injection hc with _ hc
    exact h1 hc
theorem Wr.otherObj (h : Wr Tt w B g v l bad) {k : Nat} {o : Obj} (hb : w.heap[k]? = some o) (ho : ∀ cs t fr, o ≠ .cells cs t fr) : ¬ FootS g v k := by
  rintro (rfl | hk)
  · have := h.cell
    unfold Blk at this
    rw [hb] at this
    injection this with this
    exact ho _ _ _ this
  · obtain ⟨cur, hc⟩ := own_obj h.own hk
    rw [hb] at hc
    injection hc with hc
    exact ho _ _ _ hc
theorem Wr.below (_h : Wr Tt w B g v l bad) (hf : Foot w g v w1 v1) {B0 : Nat} (hB : B0 ≤ B) (hw : B0 ≤ w.heap.size) (hge : ∀ k, FootS g v k → B ≤ k) : Below B0 w w1 := hf.keep.below (fun k hk => Nat.le_trans hB (hge k hk)) hw

/-- bytes behind: what append and the store back leave -/
theorem Wr.more (h : Wr Tt w B g v l bad) (hT : Tt ≠ 5) {news : List UInt8} (hown : w1.ownsRow B 5 1 v1 (l.length + news.length) (l.map b8 ++ news.map b8)) (hk : Keep (fun k => v.ownBlock = some k) w w1) (hat : v1.ownBlock = v.ownBlock ∨ ∃ m, v1.ownBlock = some m ∧ w.heap.size ≤ m) :
    Wr Tt (w1.setCell ⟨g, 0, none⟩ v1) B g v1 (l ++ news) bad ∧ Foot w g v (w1.setCell ⟨g, 0, none⟩ v1) v1 := by
  have hne := h.ne hT
  have hg1 : Blk w1 g Tt #[v, .bool bad] := hk.blk h.cell (fun e => hne e)
  have hne1 : v1.ownBlock ≠ some g := by
    rcases hat with e | ⟨m, e, hm⟩
    · rw [e]; exact hne
    · rw [e]
      intro e2
      injection e2 with e2
      have := h.cell.lt
      omega
  refine ⟨⟨?_, ?_, h.base⟩, ⟨(hk.mono (T := FootS g v) fun j hj => Or.inl (Or.inr hj)).trans (Keep.setCell w1 ⟨g, 0, none⟩ v1) fun j hj => Or.inl (Or.inl hj), hat⟩⟩
  · have := hg1.set 0 v1
    simpa using this
  · rw [List.length_append, List.map_append]
    exact (Keep.setCell w1 ⟨g, 0, none⟩ v1).own hown fun k hk2 hk3 => hne1 (by rw [hk2, hk3])
/-- the mark is stored -/
theorem Wr.mark (h : Wr Tt w B g v l bad) (hT : Tt ≠ 5) (b : Bool) : Wr Tt (w.setCell ⟨g, 1, none⟩ (.bool b)) B g v l b ∧ Foot w g v (w.setCell ⟨g, 1, none⟩ (.bool b)) v := by
  refine ⟨⟨?_, (Keep.setCell w ⟨g, 1, none⟩ (.bool b)).own h.own fun k hk hk2 => h.ne hT (by rw [hk, hk2]), h.base⟩, ⟨(Keep.setCell w ⟨g, 1, none⟩ (.bool b)).mono fun j hj => Or.inl (Or.inl hj), Or.inl rfl⟩⟩
  have := h.cell.set 1 (.bool b)
  simpa using this
end

/-- a row of one cell -/
theorem Blk.reads1 {w : World} {m t : Nat} {x : Value} (h : Blk w m t #[x]) : ReadsAt w (m + 1) 1 (some ⟨m, 0, none⟩) 1 [x] :=
  ⟨by simp, fun _ => ⟨m, 0, rfl, by omega, fun j u hu => by
    obtain ⟨rfl, rfl⟩ : j = 0 ∧ x = u := by
      cases j with
      | zero => exact ⟨rfl, by simpa using hu⟩
      | succ j => simp at hu
    rw [Nat.zero_add, h.cell]; rfl⟩⟩

/-- w.buf = append(w.buf, ..): what lies between append and the store -/
structure AppMid (Tt : TypeId) (B g : Nat) (v : Value) (l : List UInt8) (bad : Bool) (w0 : World) (news : List UInt8) (x : Value) (w : World) : Prop where
  cell : Blk w g Tt #[v, .bool bad]
  own : w.ownsRow B 5 1 x (l.length + news.length) (l.map b8 ++ news.map b8)
  base : B ≤ g
  keep : Keep (FootS g v) w0 w
  at_ : x.ownBlock = v.ownBlock ∨ ∃ m, x.ownBlock = some m ∧ w0.heap.size ≤ m
  ne : x.ownBlock ≠ some g
/-- the chain of w.buf = append(w.buf, ..) -/
def appW (Tt : TypeId) (B g : Nat) (v : Value) (l : List UInt8) (bad : Bool) (w0 : World) (news : List UInt8) : List Value → World → Prop
  | [], w => Wr Tt w B g v l bad ∧ Foot w0 g v w v
  | [x], w => AppMid Tt B g v l bad w0 news x w
  | [x, _], w => Wr Tt w B g x (l ++ news) bad ∧ Foot w0 g v w x
  | _, _ => False
section
variable {Tt : TypeId} {w0 w w2 : World} {B g : Nat} {v x : Value} {l news : List UInt8} {bad : Bool}
theorem appW.grow : ∀ (vals : List Value) (w w2 : World), Grow w w2 → appW Tt B g v l bad w0 news vals w → appW Tt B g v l bad w0 news vals w2
  | [], _, _, hg, h => ⟨h.1.grow hg, h.2.trans (Foot.grow hg)⟩
  | [_], _, _, hg, h => ⟨h.cell.below hg h.cell.lt, own_below h.own hg, h.base, h.keep.trans' (Keep.grow hg), h.at_, h.ne⟩
  | [_, _], _, _, hg, h => ⟨h.1.grow hg, h.2.trans (Foot.grow hg)⟩
  | _ :: _ :: _ :: _, _, _, _, h => h
theorem appW.app (h : appW Tt B g v l bad w0 news [] w) (hT : Tt ≠ 5) (hown : w2.ownsRow B 5 1 x (l.length + news.length) (l.map b8 ++ news.map b8)) (hg : w.grownBy w2 v.ownBlock) (hat : x.ownBlock = v.ownBlock ∨ x.ownBlock = some w.heap.size) :
    Keep (FootS g v) w w2 ∧ appW Tt B g v l bad w0 news [x] w2 := by
  have hk : Keep (FootS g v) w w2 := (Keep.grown hg).mono fun j hj => Or.inl (Or.inr hj)
  have hne := h.1.ne hT
  have hz := h.2.keep.size
  have hz2 := h.1.cell.lt
  refine ⟨hk, (Keep.grown hg).blk h.1.cell hne, hown, h.1.base, h.2.keep.trans' hk, ?_, ?_⟩
  · rcases hat with e | e
    · exact Or.inl e
    · exact Or.inr ⟨_, e, hz⟩
  · rcases hat with e | e
    · rw [e]; exact hne
    · rw [e]
      intro e2
      injection e2 with e2
      omega
theorem appW.store (h : appW Tt B g v l bad w0 news [x] w) (y : Value) :
    Keep (FootS g v) w (w.setCell ⟨g, 0, none⟩ x) ∧ appW Tt B g v l bad w0 news [x, y] (w.setCell ⟨g, 0, none⟩ x) := by
  have hk : Keep (FootS g v) w (w.setCell ⟨g, 0, none⟩ x) := (Keep.setCell w ⟨g, 0, none⟩ x).mono fun j hj => Or.inl (Or.inl hj)
  refine ⟨hk, ⟨?_, ?_, h.base⟩, h.keep.trans' hk, h.at_⟩
  · have := h.cell.set 0 x
    simpa using this
  · rw [List.length_append, List.map_append]
    exact (Keep.setCell w ⟨g, 0, none⟩ x).own h.own fun k hk2 hk3 => h.ne (by rw [hk2, hk3])
/-- the chain of w.bad = .. -/
def markW (Tt : TypeId) (B g : Nat) (v : Value) (l : List UInt8) (bad b : Bool) (w0 : World) : List Value → World → Prop
  | [], w => Wr Tt w B g v l bad ∧ Foot w0 g v w v
  | [_], w => Wr Tt w B g v l b ∧ Foot w0 g v w v
  | _, _ => False
theorem markW.grow {b : Bool} : ∀ (vals : List Value) (w w2 : World), Grow w w2 → markW Tt B g v l bad b w0 vals w → markW Tt B g v l bad b w0 vals w2
  | [], _, _, hg, h => ⟨h.1.grow hg, h.2.trans (Foot.grow hg)⟩
  | [_], _, _, hg, h => ⟨h.1.grow hg, h.2.trans (Foot.grow hg)⟩
  | _ :: _ :: _, _, _, _, h => h
theorem markW.store {b : Bool} (h : markW Tt B g v l bad b w0 [] w) (hT : Tt ≠ 5) (y : Value) :
    Keep (FootS g v) w (w.setCell ⟨g, 1, none⟩ (.bool b)) ∧ markW Tt B g v l bad b w0 [y] (w.setCell ⟨g, 1, none⟩ (.bool b)) := by
  have := h.1.mark hT b
  exact ⟨this.2.keep, this.1, h.2.trans this.2⟩
end
theorem step_skip {P : Program} {Q : Exit → Act → World → Prop} {o : Oper} {a' : Act} {w1 w2 : World} {K : Act → World → Prop} (hrun : (execOp a'.eval o).run P w1 = .ok .skip w2) (hK : K (a'.put o.dst undef) w2) : o.wp P a' w1 K Q := by
  unfold Oper.wp
  rw [hrun]
  exact hK
theorem evalT {a : Act} {n : Nat} {u : Value} (h : a.tmps[n]? = some u) : a.eval (.tmp n) = u := by
  show a.tmps.getD n undef = u
  rw [Array.getD_eq_getD_getElem?, h]
  rfl
theorem keep_trans {S : Nat → Prop} : ∀ x y z, Keep S x y → Keep S y z → Keep S x z := fun _ _ _ h k => h.trans' k
theorem keep_grow {S : Nat → Prop} : ∀ x y, Grow x y → Keep S x y := fun _ _ h => Keep.grow h
theorem factsOn_mono {le : World → World → Prop} (l : List (FactOn le)) : ∀ i u x y, le x y → FactsOn l i u x → FactsOn l i u y := fun i u x y h k => FactsOn.mono l i u x y h k

section
variable {Tt : TypeId} {w w1 w2 : World} {B g : Nat} {v v1 : Value} {l : List UInt8} {bad : Bool} {S : Nat → Prop}
/-- other blocks turn -/
theorem Wr.moved (h : Wr Tt w B g v l bad) (hk : Keep S w w1) (hS : ∀ k, FootS g v k → ¬ S k) : Wr Tt w1 B g v l bad :=
  ⟨hk.blk h.cell (hS g (Or.inl rfl)), hk.own h.own fun k hk2 => hS k (Or.inr hk2), h.base⟩
theorem Foot.moved (h : Foot w g v w1 v1) (hk : Keep S w1 w2) (hS : ∀ k, S k → w.heap.size ≤ k) : Foot w g v w2 v1 :=
  ⟨h.keep.trans hk fun k hk2 => Or.inr (hS k hk2), h.at_⟩
theorem Keep.only {ms : List Nat} (h : OnlyMarks ms w w1) : Keep (fun k => k ∈ ms) w w1 := ⟨h.os, h.tape, h.output, Nat.le_of_eq h.size.symm, fun k _ hk => h.block k hk⟩
theorem Wr.old (h : Wr Tt w B g v l bad) {k : Nat} (hk : w.heap.size ≤ k) : ¬ FootS g v k := fun hf => by have := h.lt k hf; omega
end
theorem Wr.below' {Tt : TypeId} {w w1 : World} {B g : Nat} {v v1 : Value} {l : List UInt8} {bad : Bool} (h : Wr Tt w B g v l bad) (hf : Foot w g v w1 v1) : Below B w w1 :=
  hf.keep.below h.ge (Nat.le_trans h.base (Nat.le_of_lt h.cell.lt))

end Go.Proofs.Ytamdejidkgnaeaa

namespace Go.Proofs.Ytamdejidkgnaeaa
open Go.RowKit WireM

/-- a number that is none -/
def badB (n : Int) : Bool := decide (n < 0) || decide (1099511627776 < n)
/-- all are such -/
def fitsB (l : List Int) : Bool := l.all fun n => !badB n

end Go.Proofs.Ytamdejidkgnaeaa

namespace Go.Proofs.Ytamdejidkgnaeaa
open Go.RowKit Go.Shelf WireM
attribute [local go_sem] Oper.semAt_some

set_option maxRecDepth 10000 in
theorem or128 : ∀ x : Fin 256, x.val ||| 128 = x.val % 128 + 128 := by decide
theorem or_byte (r : Nat) : bits BinOp.or IntKind.u8 ((r : Int) % 256) 128 = ((UInt8.ofNat (r % 128 + 128)).toNat : Int) := by
  have e1 : ((r : Int) % 256) = ((r % 256 : Nat) : Int) := by omega
  have e2 := u8_or_nat (r % 256) 128 (Nat.mod_lt _ (by omega)) (by omega)
  have e3 : r % 256 ||| 128 = r % 256 % 128 + 128 := or128 ⟨r % 256, Nat.mod_lt _ (by omega)⟩
  have e4 : r % 256 % 128 = r % 128 := Nat.mod_mod_of_dvd r ⟨2, rfl⟩
  have e5 : (UInt8.ofNat (r % 128 + 128)).toNat = r % 128 + 128 := by rw [UInt8.toNat_ofNat']; exact Nat.mod_eq_of_lt (by omega)
  rw [e1, show (128 : Int) = ((128 : Nat) : Int) from rfl, e2, e3, e4, e5]
theorem last_byte (r : Nat) (h : r < 128) : (r : Int) = ((UInt8.ofNat r).toNat : Int) := by
  rw [UInt8.toNat_ofNat', Nat.mod_eq_of_lt (by omega)]

/-- what the loop of the bytes holds: r is left, k are through -/
structure Rest (m k r : Nat) : Prop where
  len : k + (enc r).length = (enc m).length
  at_ : ∀ i x, (enc r)[i]? = some x → (enc m)[k + i]? = some x
  le : r ≤ m
theorem Rest.zero (m : Nat) : Rest m 0 m := ⟨by omega, fun i x h => by rwa [Nat.zero_add], Nat.le_refl _⟩
theorem Rest.next {m k r : Nat} (h : Rest m k r) (hr : 128 ≤ r) : Rest m (k + 1) (r / 128) := by
  have e := enc_big hr
  refine ⟨by have := h.len; rw [e, List.length_cons] at this; omega, fun i x hx => ?_, Nat.le_trans (Nat.div_le_self _ _) h.le⟩
  have := h.at_ (i + 1) x (by rw [e]; simpa using hx)
  rwa [show k + (i + 1) = k + 1 + i by omega] at this
theorem Rest.byte {m k r : Nat} (h : Rest m k r) (hr : 128 ≤ r) : (enc m)[k]? = some (UInt8.ofNat (r % 128 + 128)) := by
  have := h.at_ 0 _ (by rw [enc_big hr]; rfl)
  simpa using this
theorem Rest.last {m k r : Nat} (h : Rest m k r) (hr : r < 128) : (enc m)[k]? = some (UInt8.ofNat r) ∧ k + 1 = (enc m).length := by
  have := h.at_ 0 _ (by rw [enc_small hr]; rfl)
  refine ⟨by simpa using this, ?_⟩
  have := h.len
  rw [enc_small hr] at this
  simpa using this

end Go.Proofs.Ytamdejidkgnaeaa

namespace Go.Proofs.Ytamdejidkgnaeaa
open Go.RowKit

section
variable {F : Fence} {n : Nat} {P : Program} {ops : Array Oper} {Q : Exit → Act → World → Prop} {a : Act} {w : World} {rest : List Oper} {o : Oper}
theorem wpListIn_load_row (hgd : o.guard = none) (ty : TypeId) (x : Operand) (ho : o.op = .load ty x)
    (g : Nat) (hx : a.eval x = .pointer (some ⟨g, 0, none⟩)) (t : TypeId) (cs : Array Value) (fr : Nat × Nat) (d : TypeDesc) (hg : w.heap[g]? = some (.cells cs t fr))
    (hu : P.underlying ty = some d) (hd : (match d with | .struct _ | .array _ _ => true | _ => false) = true) (hi : (P.info? ty).map (·.size) = some cs.size)
    (h : wpListIn F n P ops Q rest (a.put o.dst (.agg cs)) w) : wpListIn F n P ops Q (o :: rest) a w := by
  refine wpListIn_plain hgd fun K hK' => ?_
  unfold Oper.wpIn
  refine ⟨?_, ?_⟩
  · simp [Oper.about, ho]
  · rw [Oper.semAt_plain F _ _ (by rw [ho]; intro c hc'; cases hc')]
    simp only [execOp, ho, hx, Instr.loadAt, Instr.sureAddr, Sem.run_bind, Sem.run_pure, Result.andThen_ok, run_loadVar_row w g t ty cs fr d hg hu hd hi]
    exact hK' _ _ h

theorem Blk.setRow {w : World} {g : Nat} {t : TypeId} {old : Array Value} (h : Blk w g t old) (cs : Array Value) : Blk (w.setRow g cs) g t cs := setRow_heap w g old cs t (0, 0) h
theorem below_setRow1 {B : Nat} {a w : World} (h : Below B a w) {g : Nat} (hg : B ≤ g) (cs : Array Value) : Below B a (w.setRow g cs) :=
  ⟨h.os, h.tape, h.output, by simpa using h.size, fun k hk => (setRow_other w g k cs (by omega)).trans (h.block k hk)⟩

theorem wpListIn_store_row (hgd : o.guard = none) (ty : TypeId) (x y : Operand) (ho : o.op = .store ty x y)
    (g : Nat) (cells : Array Value) (hx : a.eval x = .pointer (some ⟨g, 0, none⟩)) (hy : a.eval y = .agg cells)
    (t : TypeId) (old : Array Value) (hg : w.heap[g]? = some (.cells old t (0, 0))) (hi : (P.info? ty).map (·.size) = some cells.size)
    (hold : old.size = cells.size) (h1 : cells.all (·.oneCell') = true)
    (h : wpListIn F n P ops Q rest (a.put o.dst undef) (w.setRow g cells)) : wpListIn F n P ops Q (o :: rest) a w := by
  refine wpListIn_plain hgd fun K hK' => ?_
  unfold Oper.wpIn
  refine ⟨?_, ?_⟩
  · simp [Oper.about, ho]
  · rw [Oper.semAt_plain F _ _ (by rw [ho]; intro c hc'; cases hc')]
    simp only [execOp, ho, hx, hy, Instr.storeAt, Instr.sureAddr, Sem.run_bind, Sem.run_pure, Result.andThen_ok, run_storeVar_row w g t ty old cells hg hi hold h1]
    exact hK' _ _ h
end
end Go.Proofs.Ytamdejidkgnaeaa
