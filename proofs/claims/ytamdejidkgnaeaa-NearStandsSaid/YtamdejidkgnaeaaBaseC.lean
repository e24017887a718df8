/-
  A law for a region that draws its order and whose operations make memory or call: each operation leaves a fact of its value, which nothing that follows breaks; whatever order is drawn, at the end all facts hold. No program is in sight.
  Facts for the law of XFacts: what a slot of a drawn region may hold, said so that nothing that follows breaks it. No program is in sight.
  A law for a region that draws its order and in which some operations write (a chain: each waits for the one before): the world is told by how many of the chain have been carried out; all else leaves facts. Whatever order is drawn, at the end the chain is through and all facts hold. Outside a round and within one. No program is in sight.
  What a call may turn: some blocks that lay before, and new ones. Facts that last while only such blocks turn. No program is in sight.
  Slices that are cut: what the cut reads as, and how it runs. No program is in sight.
-/
import Derived.Orders
import Derived.Below
import Derived.Deep.Draws
import Derived.Test.YtamdejidkgnaeaaBaseA
import Derived.WalkKit
import Derived.OrdersIn
import Derived.OwnWalkIn
import Derived.RangeFuncCalls
import Derived.Tactics
import Derived.Laws.Slices
import Derived.Laws.MakeOwn
import Derived.Laws.BitsAllLaws
import Derived.Laws.BitsLemmas
namespace Go.Proofs.Ytamdejidkgnaeaa
open Go.RowKit

/-- all that was there is as it was -/
def Grow (w w' : World) : Prop := Below w.heap.size w w'
theorem Grow.refl (w : World) : Grow w w := Below.refl _ _
theorem Grow.trans {a b c : World} (h : Grow a b) (k : Grow b c) : Grow a c := Below.trans h (Below.mono k (Below.size h))
theorem Grow.drew (w : World) : Grow w w.drew := Below.drew (Below.refl _ _)
theorem Grow.drewN (w : World) (q : Nat) : Grow w (w.drewN q) := ⟨rfl, rfl, rfl, Nat.le_refl _, fun _ _ => rfl⟩
theorem Grow.alloc (w : World) (o : Obj) : Grow w (w.alloc o) := Below.alloc (Below.refl _ _) (Nat.le_refl _) o
theorem Grow.below {w w' : World} (h : Grow w w') : Below w.heap.size w w' := h

/-- the frame in which operation number k + j of the list has put us (k + j) -/
def fills : List Oper → Nat → (Nat → Value) → Act → Act
  | [], _, _, a => a
  | o :: r, k, us, a => fills r (k + 1) us (a.put o.dst (us k))
/-- no two operations write one slot -/
def distinct : List Oper → Bool
  | [] => true
  | o :: r => (match o.dst with
    | some d => r.all fun x => x.dst != some d
    | none => true) && distinct r
def setAt (us : Nat → Value) (i : Nat) (v : Value) : Nat → Value := fun k => if k = i then v else us k

theorem put_put (a : Act) (d : Option Tmp) (u v : Value) : (a.put d u).put d v = a.put d v := by
  cases d with
  | none => rfl
  | some d => simp [Act.put]
theorem fills_congr : ∀ (l : List Oper) (k : Nat) (us us' : Nat → Value) (a : Act), (∀ j, k ≤ j → us j = us' j) → fills l k us a = fills l k us' a
  | [], _, _, _, _, _ => rfl
  | o :: r, k, us, us', a, h => by
    rw [fills, fills, h k (Nat.le_refl _)]
    exact fills_congr r (k + 1) us us' _ fun j hj => h j (by omega)
theorem fills_put : ∀ (l : List Oper) (k : Nat) (us : Nat → Value) (a : Act) (d : Option Tmp) (v : Value), (∀ e, d = some e → l.all (fun x => x.dst != some e) = true) → (fills l k us a).put d v = fills l k us (a.put d v)
  | [], _, _, _, _, _, _ => rfl
  | o :: r, k, us, a, d, v, h => by
    rw [fills, fills, fills_put r (k + 1) us _ d v fun e he => by have := h e he; simp only [List.all_cons, Bool.and_eq_true] at this; exact this.2]
    rw [Act.put_comm]
    intro e he hd
    have := h e hd
    simp [he] at this
theorem fills_set : ∀ (l : List Oper) (k i : Nat) (us : Nat → Value) (a : Act) (o : Oper) (v : Value), distinct l = true → l[i]? = some o → (fills l k us a).put o.dst v = fills l k (setAt us (k + i) v) a
  | [], _, _, _, _, _, _, _, h => by simp at h
  | o' :: r, k, 0, us, a, o, v, hd, h => by
    obtain rfl : o' = o := by simpa using h
    rw [fills, fills]
    simp only [distinct, Bool.and_eq_true] at hd
    have hd1 : ∀ e, o'.dst = some e → r.all (fun x => x.dst != some e) = true := fun e he => by
      have := hd.1
      rw [he] at this
      exact this
    have e1 : setAt us (k + 0) v k = v := by simp [setAt]
    rw [fills_put r (k + 1) us _ o'.dst v hd1, put_put, e1]
    exact fills_congr r (k + 1) _ _ _ fun j hj => by
      have e2 : j ≠ k + 0 := by omega
      rw [setAt, if_neg e2]
  | o' :: r, k, i + 1, us, a, o, v, hd, h => by
    simp only [distinct, Bool.and_eq_true] at hd
    have e1 : setAt us (k + (i + 1)) v k = us k := by simp [setAt]
    rw [fills, fills, fills_set r (k + 1) i us _ o v hd.2 (by simpa using h), e1]
    have : k + 1 + i = k + (i + 1) := by omega
    rw [this]
theorem put_self (a : Act) (d : Option Tmp) (u : Value) (h : ∀ e, d = some e → u = a.tmps.getD e undef) : a.put d u = a := by
  cases d with
  | none => rfl
  | some e =>
    rw [h e rfl, Act.put]
    have : a.tmps.setIfInBounds e (a.tmps.getD e undef) = a.tmps := by
      apply Array.ext_getElem?
      intro j
      by_cases hj : e = j
      · subst hj
        by_cases hlt : e < a.tmps.size
        · simp [hlt, Array.getD]
        · simp [hlt]
      · rw [Array.getElem?_setIfInBounds_ne hj]
    simp only [this]
theorem fills_self : ∀ (l : List Oper) (k : Nat) (a : Act), ∃ us, fills l k us a = a
  | [], _, _ => ⟨fun _ => undef, rfl⟩
  | o :: r, k, a => by
    obtain ⟨us, h⟩ := fills_self r (k + 1) a
    refine ⟨setAt us k (match o.dst with | some d => a.tmps.getD d undef | none => undef), ?_⟩
    have e1 : ∀ u, setAt us k u k = u := fun u => by simp [setAt]
    rw [fills, e1, put_self a o.dst _ (fun e he => by rw [he])]
    rw [fills_congr r (k + 1) _ us a fun j hj => by
      have : j ≠ k := by omega
      simp [setAt, this]]
    exact h

section
variable (P : Program) (ops : Array Oper) (F : Nat → Value → World → Prop) (a : Act) (w : World) (Q : Exit → Act → World → Prop)
/-- the facts of what an operation waits for -/
def Deps (us : Nat → Value) (w : World) : List Edge → Prop
  | [] => True
  | e :: r => F e.on (us e.on) w ∧ Deps us w r
/-- what is asked of operation number i -/
def StepOf (i : Nat) (o : Oper) : Prop := ∀ (us : Nat → Value) (w1 : World) (a' : Act), Hid (a' = fills ops.toList 0 us a) → Grow w w1 → Deps F us w1 (o.after.toList.filter (Region.binds .any)) →
  if Region.wanted o (yielded ops a'.tmps) then
    ∀ K : Act → World → Prop, (∀ v w2, Grow w1 w2 → F i v w2 → K (a'.put o.dst v) w2) → o.wp P a' w1 K Q
  else F i undef w1
def StepsOf : List Oper → Nat → Prop
  | [], _ => True
  | o :: r, i => StepOf P ops F a w Q i o ∧ StepsOf r (i + 1)
end

/-- each operation waits for earlier ones alone; no two write one slot -/
def regionOk (ops : Array Oper) : Bool := distinct ops.toList && (ops.toList.zipIdx.all fun p => p.1.after.all fun e => !Region.binds .any e || decide (e.on < p.2))

section
variable {P : Program} {ops : Array Oper} {F : Nat → Value → World → Prop} {a : Act} {w : World} {Q : Exit → Act → World → Prop}
theorem StepsOf.get : ∀ {l : List Oper} {k i : Nat} {o : Oper}, StepsOf P ops F a w Q l k → l[i]? = some o → StepOf P ops F a w Q (k + i) o
  | [], _, _, _, _, h => by simp at h
  | o' :: r, k, 0, o, hs, h => by
    obtain rfl : o' = o := by simpa using h
    exact hs.1
  | o' :: r, k, i + 1, o, hs, h => by
    have := StepsOf.get (i := i) hs.2 (by simpa using h)
    rwa [show k + 1 + i = k + (i + 1) by omega] at this
theorem Deps.of_all {us : Nat → Value} {w : World} : ∀ {l : List Edge}, (∀ e ∈ l, F e.on (us e.on) w) → Deps F us w l
  | [], _ => trivial
  | e :: _, h => ⟨h e (by simp), Deps.of_all fun e' he => h e' (by simp [he])⟩

theorem ready_mem {i : Nat} {listed : Array Bool} (h : i ∈ Region.ready .any ops listed) : ∃ o, ops[i]? = some o ∧ listed.getD i true = false ∧ ∀ e ∈ o.after, Region.binds .any e = true → listed.getD e.on false = true := by
  simp only [Region.ready, List.mem_filter, List.mem_range, Bool.and_eq_true, Bool.not_eq_true'] at h
  obtain ⟨h1, h2, h3⟩ := h
  refine ⟨ops[i], by simp [h1], h2, fun e he hb => ?_⟩
  simp only [h1, getElem?_pos, Option.map_some, Option.getD_some] at h3
  obtain ⟨j, hj, rfl⟩ := Array.mem_iff_getElem.1 he
  have := (Array.all_eq_true.1 h3) j hj
  simpa [hb] using this
theorem ready_nil {listed : Array Bool} (hB : regionOk ops = true) (hsz : listed.size = ops.size) (h : Region.ready .any ops listed = []) : ∀ i, i < ops.size → listed.getD i false = true := by
  intro i
  induction i using Nat.strongRecOn with
  | ind i ih =>
    intro hi
    rcases Bool.eq_false_or_eq_true (listed.getD i false) with hl | hl
    · exact hl
    · exfalso
      have hlt : i < listed.size := by omega
      have hmem : i ∈ Region.ready .any ops listed := by
        simp only [Region.ready, List.mem_filter, List.mem_range, Bool.and_eq_true, Bool.not_eq_true']
        refine ⟨hi, ?_, ?_⟩
        · have e1 : listed.getD i false = listed[i] := by simp [Array.getD, hlt]
          have e2 : listed.getD i true = listed[i] := by simp [Array.getD, hlt]
          rw [e2, ← e1]
          exact hl
        · simp only [hi, getElem?_pos, Option.map_some, Option.getD_some]
          rw [Array.all_eq_true]
          intro j hj
          simp only [regionOk, Bool.and_eq_true] at hB
          have hz := List.all_eq_true.1 hB.2 (ops[i], i) (by
            rw [List.mem_zipIdx_iff_getElem?]
            simp [hi])
          have := (Array.all_eq_true.1 hz) j hj
          rcases Bool.or_eq_true_iff.1 this with h0 | h0
          · simp [h0]
          · have := ih _ (of_decide_eq_true h0) (by have := of_decide_eq_true h0; omega)
            simp [this]
      rw [h] at hmem
      cases hmem

theorem wpAny_facts (hF : ∀ i u w1 w2, Grow w1 w2 → F i u w1 → F i u w2) (hB : regionOk ops = true) (hs : StepsOf P ops F a w Q ops.toList 0)
    (he : ∀ us w1, Grow w w1 → (∀ i, i < ops.size → F i (us i) w1) → Q .normal (fills ops.toList 0 us a) w1) :
    ∀ (fuel : Nat) (listed : Array Bool) (us : Nat → Value) (w1 : World), listed.size = ops.size → (∀ i, i < ops.size → listed.getD i false = true → F i (us i) w1) → Grow w w1 →
      (listed.toList.filter (fun b => !b)).length ≤ fuel → wpAny P .any ops Q fuel listed (fills ops.toList 0 us a) w1 := by
  intro fuel
  have hdist : distinct ops.toList = true := by simp only [regionOk, Bool.and_eq_true] at hB; exact hB.1
  have fin : ∀ (listed : Array Bool) (us : Nat → Value) (w1 : World), listed.size = ops.size → (∀ i, i < ops.size → listed.getD i false = true → F i (us i) w1) → Grow w w1 →
      Region.ready .any ops listed = [] → Q .normal (fills ops.toList 0 us a) w1 := fun listed us w1 hsz hl hg hr =>
    he us w1 hg fun i hi => hl i hi (ready_nil hB hsz hr i hi)
  have count : ∀ (l : List Bool) (i : Nat), l[i]? = some false → ((l.set i true).filter (fun b => !b)).length + 1 = (l.filter (fun b => !b)).length := by
    intro l
    induction l with
    | nil => intro i h; simp at h
    | cons b r ih =>
      intro i h
      cases i with
      | zero =>
        obtain rfl : b = false := by simpa using h
        simp
      | succ i =>
        have := ih i (by simpa using h)
        rw [List.set_cons_succ, List.filter_cons, List.filter_cons]
        split <;> simp_all
  induction fuel with
  | zero =>
    intro listed us w1 hsz hl hg hc
    have hr : Region.ready .any ops listed = [] := by
      cases hr : Region.ready .any ops listed with
      | nil => rfl
      | cons i r =>
        exfalso
        obtain ⟨o, ho, hli, _⟩ := ready_mem (show i ∈ Region.ready .any ops listed by rw [hr]; simp)
        have hi : i < listed.size := by rw [hsz]; exact (Array.getElem?_eq_some_iff.1 ho).1
        have h1 : listed.toList[i]? = some false := by
          have : listed.getD i true = listed[i] := by simp [Array.getD, hi]
          rw [this] at hli
          simp [hi, hli]
        have := count _ _ h1
        omega
    exact ⟨hr, fin listed us w1 hsz hl hg hr⟩
  | succ fuel ih =>
    intro listed us w1 hsz hl hg hc
    refine ⟨fin listed us w1 hsz hl hg, fun i hi => ?_⟩
    obtain ⟨o, ho, hli, hdep⟩ := ready_mem hi
    have hio : i < ops.size := (Array.getElem?_eq_some_iff.1 ho).1
    have hi2 : i < listed.size := by omega
    have hol : ops.toList[i]? = some o := by simpa using ho
    have h1 : listed.toList[i]? = some false := by
      have : listed.getD i true = listed[i] := by simp [Array.getD, hi2]
      rw [this] at hli
      simp [hi2, hli]
    have hcount := count _ _ h1
    have hstep := hs.get (i := i) hol
    rw [Nat.zero_add] at hstep
    have hon : ∀ e ∈ o.after, Region.binds .any e = true → e.on < i := fun e he hb0 => by
      simp only [regionOk, Bool.and_eq_true] at hB
      have hz := List.all_eq_true.1 hB.2 (o, i) (by rw [List.mem_zipIdx_iff_getElem?]; simpa using ho)
      obtain ⟨j, hj, rfl⟩ := Array.mem_iff_getElem.1 he
      have := (Array.all_eq_true.1 hz) j hj
      simpa [hb0] using this
    have hdeps : Deps F us w1 (o.after.toList.filter (Region.binds .any)) := Deps.of_all fun e he' => by
      obtain ⟨hm0, hb⟩ := List.mem_filter.1 he'
      have hm : e ∈ o.after := by simpa using hm0
      exact hl e.on (by have := hon e hm hb; omega) (hdep e hm hb)
    have next : ∀ v w2, Grow w1 w2 → F i v w2 → wpAny P .any ops Q fuel (listed.setIfInBounds i true) ((fills ops.toList 0 us a).put o.dst v) w2 := fun v w2 hg2 hf => by
      have e := fills_set ops.toList 0 i us a o v hdist hol
      rw [Nat.zero_add] at e
      rw [e]
      refine ih _ _ _ (by simpa using hsz) (fun k hk hlk => ?_) (hg.trans hg2) ?_
      · by_cases hki : k = i
        · subst hki
          simpa [setAt] using hf
        · have e2 : setAt us i v k = us k := by simp [setAt, hki]
          rw [e2]
          refine hF k _ _ _ hg2 (hl k hk ?_)
          rw [Array.getD_eq_getD_getElem?, Array.getElem?_setIfInBounds_ne (Ne.symm hki), ← Array.getD_eq_getD_getElem?] at hlk
          exact hlk
      · have : (listed.setIfInBounds i true).toList = listed.toList.set i true := by simp
        rw [this]
        omega
    have hst := hstep us w1 _ (show Hid _ from rfl) hg hdeps
    unfold wpOp
    simp only [ho]
    split
    · rename_i hw
      rw [if_pos hw] at hst
      exact Or.inl (hst _ next)
    · rename_i hw
      rw [if_neg hw] at hst
      exact next undef w1 (Grow.refl _) hst

theorem wanted_none {o : Oper} {y : Nat → Option Bool} (h : o.guard = none) : Region.wanted o y = true := by simp [Region.wanted, h]
theorem wanted_some {o : Oper} {t : Array Value} {j d : Nat} {b : Bool} (h : o.guard = some (j, b)) (hd : (ops[j]?).bind (·.dst) = some d) (hv : t[d]? = some (.bool b)) : Region.wanted o (yielded ops t) = true := by
  simp [Region.wanted, h, yielded, hd, hv]
theorem step_value {o : Oper} {a' : Act} {w1 w2 : World} {v : Value} {K : Act → World → Prop} (hrun : (execOp a'.eval o).run P w1 = .ok (.value v) w2) (hK : K (a'.put o.dst v) w2) : o.wp P a' w1 K Q := by
  unfold Oper.wp
  rw [hrun]
  exact hK
theorem step_call {o : Oper} {a' : Act} {w1 : World} {f : FuncId} {args : Array Value} {K : Act → World → Prop} (hrun : (execOp a'.eval o).run P w1 = .ok (.enter f args) w1)
    (hc : Calls P f args w1 fun e w2 => ∃ v, e = .returned v ∧ K (a'.put o.dst v) w2) : o.wp P a' w1 K Q := by
  unfold Oper.wp
  rw [hrun]
  refine hc.mono ?_
  rintro e w2 ⟨v, rfl, h⟩
  exact h
/-- an operation that is wanted -/
theorem stepOf_wanted {i : Nat} {o : Oper} (hw : ∀ (us : Nat → Value) (w1 : World) (a' : Act), Hid (a' = fills ops.toList 0 us a) → Deps F us w1 (o.after.toList.filter (Region.binds .any)) → Region.wanted o (yielded ops a'.tmps) = true)
    (h : ∀ (us : Nat → Value) (w1 : World) (a' : Act), Hid (a' = fills ops.toList 0 us a) → Grow w w1 → Deps F us w1 (o.after.toList.filter (Region.binds .any)) →
      ∀ K : Act → World → Prop, (∀ v w2, Grow w1 w2 → F i v w2 → K (a'.put o.dst v) w2) → o.wp P a' w1 K Q) : StepOf P ops F a w Q i o := fun us w1 a' ha hg hd => by
  rw [if_pos (hw us w1 a' ha hd)]
  exact h us w1 a' ha hg hd

/-- The law. -/
theorem wp_region_facts {id : Nat} (hm : P.follows .mixedOrders = true) (F : Nat → Value → World → Prop) (hF : ∀ i u w1 w2, Grow w1 w2 → F i u w1 → F i u w2) (hB : regionOk ops = true)
    (hs : StepsOf P ops F a w Q ops.toList 0) (he : ∀ us w1, Grow w w1 → (∀ i, i < ops.size → F i (us i) w1) → Q .normal (fills ops.toList 0 us a) w1) : (Code.region id ops true).wp P Q a w := by
  refine wp_region_any hm ?_
  obtain ⟨us, hus⟩ := fills_self ops.toList 0 a
  have h := wpAny_facts hF hB hs he ops.size (Array.replicate ops.size false) us w.drew (by simp) (fun i hi hl => by simp [Array.getD, hi] at hl) (Grow.drew w) (by
    simp only [Array.toList_replicate]
    exact Nat.le_trans (List.length_filter_le _ _) (by simp))
  rw [hus] at h
  exact h

theorem wpOps_facts (hF : ∀ i u w1 w2, Grow w1 w2 → F i u w1 → F i u w2) (hB : regionOk ops = true) (hs : StepsOf P ops F a w Q ops.toList 0)
    (he : ∀ us w1, Grow w w1 → (∀ i, i < ops.size → F i (us i) w1) → Q .normal (fills ops.toList 0 us a) w1) :
    ∀ (m k : Nat) (us : Nat → Value) (w1 : World), k + m = ops.size → (∀ i, i < k → F i (us i) w1) → Grow w w1 → wpOps P ops Q (List.range' k m) (fills ops.toList 0 us a) w1 := by
  have hdist : distinct ops.toList = true := by simp only [regionOk, Bool.and_eq_true] at hB; exact hB.1
  intro m
  induction m with
  | zero =>
    intro k us w1 hk hl hg
    simp only [List.range'_zero, wpOps]
    exact he us w1 hg fun i hi => hl i (by omega)
  | succ m ih =>
    intro k us w1 hk hl hg
    rw [List.range'_succ, wpOps_cons]
    have hio : k < ops.size := by omega
    obtain ⟨o, ho⟩ : ∃ o, ops[k]? = some o := ⟨_, Array.getElem?_eq_getElem hio⟩
    have hol : ops.toList[k]? = some o := by simpa using ho
    have hstep := hs.get (i := k) hol
    rw [Nat.zero_add] at hstep
    have hon : ∀ e ∈ o.after, Region.binds .any e = true → e.on < k := fun e he hb0 => by
      simp only [regionOk, Bool.and_eq_true] at hB
      have hz := List.all_eq_true.1 hB.2 (o, k) (by rw [List.mem_zipIdx_iff_getElem?]; simpa using ho)
      obtain ⟨j, hj, rfl⟩ := Array.mem_iff_getElem.1 he
      have := (Array.all_eq_true.1 hz) j hj
      simpa [hb0] using this
    have hdeps : Deps F us w1 (o.after.toList.filter (Region.binds .any)) := Deps.of_all fun e he' => by
      obtain ⟨hm0, hb⟩ := List.mem_filter.1 he'
      exact hl e.on (hon e (by simpa using hm0) hb)
    have next : ∀ v w2, Grow w1 w2 → F k v w2 → wpOps P ops Q (List.range' (k + 1) m) ((fills ops.toList 0 us a).put o.dst v) w2 := fun v w2 hg2 hf => by
      have e := fills_set ops.toList 0 k us a o v hdist hol
      rw [Nat.zero_add] at e
      rw [e]
      refine ih (k + 1) _ _ (by omega) (fun i hi => ?_) (hg.trans hg2)
      by_cases hki : i = k
      · subst hki
        simpa [setAt] using hf
      · have e2 : setAt us k v i = us i := by simp [setAt, hki]
        rw [e2]
        exact hF i _ _ _ hg2 (hl i (by omega))
    have hst := hstep us w1 _ (show Hid _ from rfl) hg hdeps
    unfold wpOp
    simp only [ho]
    split
    · rename_i hw
      rw [if_pos hw] at hst
      exact Or.inl (hst _ next)
    · rename_i hw
      rw [if_neg hw] at hst
      exact next undef w1 (Grow.refl _) hst
/-- The law for a region that does not draw. -/
theorem wp_region_plain_facts {id : Nat} (F : Nat → Value → World → Prop) (hF : ∀ i u w1 w2, Grow w1 w2 → F i u w1 → F i u w2) (hB : regionOk ops = true)
    (hs : StepsOf P ops F a w Q ops.toList 0) (he : ∀ us w1, Grow w w1 → (∀ i, i < ops.size → F i (us i) w1) → Q .normal (fills ops.toList 0 us a) w1) : (Code.region id ops false).wp P Q a w := by
  refine wp_region ?_
  obtain ⟨us, hus⟩ := fills_self ops.toList 0 a
  have h := wpOps_facts hF hB hs he ops.size 0 us w (by omega) (fun i hi => by omega) (Grow.refl _)
  rw [hus, ← List.range_eq_range'] at h
  exact h
end
end Go.Proofs.Ytamdejidkgnaeaa

namespace Go.Proofs.Ytamdejidkgnaeaa
open Go.RowKit

/-- a fact of a value that lasts -/
structure Fact where
  p : Value → World → Prop
  mono : ∀ u w1 w2, Grow w1 w2 → p u w1 → p u w2
def Fact.any : Fact := ⟨fun _ _ => True, fun _ _ _ _ h => h⟩
def Fact.is (v : Value) : Fact := ⟨fun u _ => u = v, fun _ _ _ _ h => h⟩
/-- a slice that reads as the bytes l -/
def Fact.bytes (l : List UInt8) : Fact :=
  ⟨fun u w => ∃ A c, u = .slice A l.length c ∧ l.length ≤ c ∧ c ≤ maxLen ∧ BytesAt w w.heap.size A l.length l, fun _ _ _ hg ⟨A, c, h1, h2, h3, h4⟩ => ⟨A, c, h1, h2, h3, (h4.below hg).more hg.size⟩⟩
/-- a slice that reads as the rows ls -/
def Fact.rows (ls : List (List UInt8)) : Fact :=
  ⟨fun u w => ∃ A c, u = .slice A ls.length c ∧ RowsAt w w.heap.size A ls.length ls, fun _ _ _ hg ⟨A, c, h1, h2⟩ => ⟨A, c, h1, (h2.below hg).more hg.size⟩⟩
def Facts (l : List Fact) (i : Nat) : Value → World → Prop := (l.getD i Fact.any).p
theorem Facts.mono (l : List Fact) : ∀ i u w1 w2, Grow w1 w2 → Facts l i u w1 → Facts l i u w2 := fun i => (l.getD i Fact.any).mono
end Go.Proofs.Ytamdejidkgnaeaa

namespace Go.Proofs.Ytamdejidkgnaeaa
open Go.RowKit

/-- all that an operation waits for, directly or through others -/
def reach (ops : Array Oper) : Nat → Nat → List Nat
  | 0, _ => []
  | f + 1, i => match ops[i]? with
    | none => []
    | some o => (o.after.toList.filter (Region.binds .any)).flatMap fun e => e.on :: reach ops f e.on

section
variable {P : Program} {ops : Array Oper} {Q : Exit → Act → World → Prop}
/-- operation number i comes up -/
def opAt (P : Program) (ops : Array Oper) (Q : Exit → Act → World → Prop) (i : Nat) (K : Act → World → Prop) (a : Act) (w : World) : Prop :=
  match ops[i]? with
  | none => K a w
  | some o => if Region.wanted o (yielded ops a.tmps) then o.wp P a w K Q else K (a.put o.dst undef) w
def anyOrder (P : Program) (ops : Array Oper) (Q : Exit → Act → World → Prop) : Nat → Array Bool → Act → World → Prop
  | 0, listed, a, w => Region.ready .any ops listed = [] ∧ Q .normal a w
  | fuel + 1, listed, a, w => (Region.ready .any ops listed = [] → Q .normal a w) ∧ ∀ i ∈ Region.ready .any ops listed, opAt P ops Q i (anyOrder P ops Q fuel (listed.setIfInBounds i true)) a w
theorem anyOrder.wp : ∀ {fuel : Nat} {listed : Array Bool} {a : Act} {w : World}, anyOrder P ops Q fuel listed a w → wpAny P .any ops Q fuel listed a w
  | 0, _, _, _, h => h
  | fuel + 1, _, _, _, h => ⟨h.1, fun i hi => by
    have := h.2 i hi
    unfold opAt at this
    unfold wpOp
    split
    · rename_i ho
      simp only [ho] at this
      exact anyOrder.wp this
    · rename_i o ho
      simp only [ho] at this
      split
      · rename_i hw
        rw [if_pos hw] at this
        exact Or.inl (Oper.wp_mono (fun _ _ h => anyOrder.wp h) this)
      · rename_i hw
        rw [if_neg hw] at this
        exact anyOrder.wp this⟩
theorem wpIn_of_wp {l n : Nat} {o : Oper} {a : Act} {w : World} {K : Act → World → Prop} (hnd : ∀ c, o.op ≠ .defer c) (h : o.wp P a w K Q) : o.wpIn (Fence.wide.inRound l) n P a w K Q := by
  refine ⟨fun _ _ => trivial, ?_⟩
  rw [Oper.semAt_plain _ _ _ hnd]
  unfold Oper.wp at h
  generalize (execOp a.eval o).run P w = r at *
  cases r with
  | ok x w' =>
    cases x <;> simp only [Oper.upon, Oper.uponIn] at h ⊢
    case value => exact h
    case skip => exact h
    case defer => exact h
    case enter f args => exact ⟨(fun hd => by cases hd), CallsIn.inRound l (callsIn_wide.2 h)⟩
    case row row args => exact ⟨(fun hd => by cases hd), fun c cs _ => let ⟨v, w', r, s⟩ := h c cs; ⟨v, w', r, stepsIn_wide.2 s⟩⟩
  | halt x w' => cases x <;> simp only [Oper.upon, Oper.uponIn] at h ⊢ <;> exact h
/-- no operation defers -/
def noDefer (ops : Array Oper) : Bool := ops.toList.all fun o => match o.op with
  | .defer _ => false
  | _ => true
theorem noDefer_get (h : noDefer ops = true) {i : Nat} {o : Oper} (ho : ops[i]? = some o) : ∀ c, o.op ≠ .defer c := fun c hc => by
  have := List.all_eq_true.1 h o (by simpa using Array.mem_of_getElem? ho)
  simp [hc] at this
theorem anyOrder.wpIn (hnd : noDefer ops = true) {l n : Nat} : ∀ {fuel : Nat} {listed : Array Bool} {a : Act} {w : World}, anyOrder P ops Q fuel listed a w → wpAnyIn (Fence.wide.inRound l) n P .any ops Q fuel listed a w
  | 0, _, _, _, h => h
  | fuel + 1, _, _, _, h => ⟨h.1, fun i hi => by
    have := h.2 i hi
    unfold opAt at this
    unfold wpOpIn
    split
    · rename_i ho
      simp only [ho] at this
      exact anyOrder.wpIn hnd this
    · rename_i o ho
      simp only [ho] at this
      split
      · rename_i hw
        rw [if_pos hw] at this
        exact wpIn_of_wp (noDefer_get hnd ho) (Oper.wp_mono (fun _ _ h => anyOrder.wpIn hnd h) this)
      · rename_i hw
        rw [if_neg hw] at this
        exact ⟨fun _ _ => trivial, anyOrder.wpIn hnd this⟩⟩
end

section
variable (P : Program) (ops : Array Oper) (ms : List Nat) (le : World → World → Prop) (W : List Value → World → Prop) (F : Nat → Value → World → Prop) (bnd : Nat → Nat) (a : Act) (w : World) (Q : Exit → Act → World → Prop)
/-- what an operation waits for: a fact, or the value that the chain has noted -/
def DepsM (us : Nat → Value) (vals : List Value) (w : World) : List Edge → Prop
  | [] => True
  | e :: r => (match ms.idxOf? e.on with
    | some t => vals[t]? = some (us e.on)
    | none => F e.on (us e.on) w) ∧ DepsM us vals w r
/-- what is asked of operation number i -/
def StageOf (i : Nat) (o : Oper) : Prop := ∀ (us : Nat → Value) (vals : List Value) (w1 : World) (a' : Act), Hid (a' = fills ops.toList 0 us a) → le w w1 → W vals w1 → DepsM ms F us vals w1 (o.after.toList.filter (Region.binds .any)) →
  match ms.idxOf? i with
  | some t => vals.length = t → Region.wanted o (yielded ops a'.tmps) = true ∧ ∀ K : Act → World → Prop, (∀ v w2, le w1 w2 → W (vals ++ [v]) w2 → K (a'.put o.dst v) w2) → o.wp P a' w1 K Q
  | none => vals.length ≤ bnd i → if Region.wanted o (yielded ops a'.tmps) then ∀ K : Act → World → Prop, (∀ v w2, Grow w1 w2 → F i v w2 → K (a'.put o.dst v) w2) → o.wp P a' w1 K Q else F i undef w1
def StagesOf : List Oper → Nat → Prop
  | [], _ => True
  | o :: r, i => StageOf P ops ms le W F bnd a w Q i o ∧ StagesOf r (i + 1)
end
/-- the chain is one; what is said to come up early does -/
def chainOk (ops : Array Oper) (ms : List Nat) (bnd : Nat → Nat) : Bool :=
  ms.all (fun i => decide (i < ops.size)) && ((List.range ms.length).all fun t => decide (t = 0) || (reach ops ops.size (ms.getD t 0)).contains (ms.getD (t - 1) 0)) &&
  ((List.range ops.size).all fun i => decide (ms.length ≤ bnd i) || (reach ops ops.size (ms.getD (bnd i) 0)).contains i) && decide (ms.Nodup)

section
variable {P : Program} {ops : Array Oper} {ms : List Nat} {le : World → World → Prop} {W : List Value → World → Prop} {F : Nat → Value → World → Prop} {bnd : Nat → Nat} {a : Act} {w : World} {Q : Exit → Act → World → Prop}
theorem StagesOf.get : ∀ {l : List Oper} {k i : Nat} {o : Oper}, StagesOf P ops ms le W F bnd a w Q l k → l[i]? = some o → StageOf P ops ms le W F bnd a w Q (k + i) o
  | [], _, _, _, _, h => by simp at h
  | o' :: r, k, 0, o, hs, h => by
    obtain rfl : o' = o := by simpa using h
    exact hs.1
  | o' :: r, k, i + 1, o, hs, h => by
    have := StagesOf.get (i := i) hs.2 (by simpa using h)
    rwa [show k + 1 + i = k + (i + 1) by omega] at this
theorem DepsM.of_all {us : Nat → Value} {vals : List Value} {w : World} : ∀ {l : List Edge}, (∀ e ∈ l, match ms.idxOf? e.on with | some t => vals[t]? = some (us e.on) | none => F e.on (us e.on) w) → DepsM ms F us vals w l
  | [], _ => trivial
  | e :: _, h => ⟨h e (by simp), DepsM.of_all fun e' he => h e' (by simp [he])⟩
/-- what has been carried out is closed under what it waited for -/
def Closed (ops : Array Oper) (listed : Array Bool) : Prop := ∀ i o, ops[i]? = some o → listed.getD i false = true → ∀ e ∈ o.after, Region.binds .any e = true → listed.getD e.on false = true
theorem Closed.reach {listed : Array Bool} (h : Closed ops listed) : ∀ (f i : Nat), listed.getD i false = true → ∀ j ∈ reach ops f i, listed.getD j false = true
  | 0, _, _, j, hj => by simp [Proofs.Ytamdejidkgnaeaa.reach] at hj
  | f + 1, i, hi, j, hj => by
    unfold Proofs.Ytamdejidkgnaeaa.reach at hj
    cases ho : ops[i]? with
    | none => rw [ho] at hj; simp at hj
    | some o =>
      rw [ho] at hj
      simp only [List.mem_flatMap, List.mem_filter, List.mem_cons] at hj
      obtain ⟨e, ⟨he, hb⟩, hj⟩ := hj
      have h1 := h i o ho hi e (by simpa using he) hb
      rcases hj with rfl | hj
      · exact h1
      · exact Closed.reach h f e.on h1 j hj

/-- how it stands when listed have been carried out -/
structure At (ms : List Nat) (ops : Array Oper) (le : World → World → Prop) (W : List Value → World → Prop) (F : Nat → Value → World → Prop) (w : World) (listed : Array Bool) (us : Nat → Value) (vals : List Value) (w1 : World) : Prop where
  size : listed.size = ops.size
  closed : Closed ops listed
  to : le w w1
  world : W vals w1
  chain : ∀ t, t < ms.length → (listed.getD (ms.getD t 0) false = true ↔ t < vals.length)
  told : ∀ t, t < vals.length → vals[t]? = some (us (ms.getD t 0))
  len : vals.length ≤ ms.length
  facts : ∀ i, i < ops.size → listed.getD i false = true → ms.idxOf? i = none → F i (us i) w1

theorem idxOf_get {i t : Nat} (h : ms.idxOf? i = some t) : t < ms.length ∧ ms.getD t 0 = i := by
  rw [List.idxOf?_eq_some_iff] at h
  obtain ⟨h1, h2, _⟩ := h
  refine ⟨h1, ?_⟩
  rw [List.getD_eq_getElem?_getD, List.getElem?_eq_getElem h1]
  simpa using h2

theorem anyOrder_stages (hle : ∀ x y z, le x y → le y z → le x z) (hgl : ∀ x y, Grow x y → le x y) (hW : ∀ vals x y, Grow x y → W vals x → W vals y) (hF : ∀ i u x y, le x y → F i u x → F i u y)
    (hB : regionOk ops = true) (hC : chainOk ops ms bnd = true) (hs : StagesOf P ops ms le W F bnd a w Q ops.toList 0)
    (he : ∀ us vals w1, le w w1 → vals.length = ms.length → W vals w1 → (∀ t, t < vals.length → vals[t]? = some (us (ms.getD t 0))) → (∀ i, i < ops.size → ms.idxOf? i = none → F i (us i) w1) → Q .normal (fills ops.toList 0 us a) w1) :
    ∀ (fuel : Nat) (listed : Array Bool) (us : Nat → Value) (vals : List Value) (w1 : World), At ms ops le W F w listed us vals w1 → (listed.toList.filter (fun b => !b)).length ≤ fuel → anyOrder P ops Q fuel listed (fills ops.toList 0 us a) w1 := by
  simp only [chainOk, Bool.and_eq_true] at hC
  obtain ⟨⟨⟨hc1, hc2⟩, hc3⟩, hc4⟩ := hC
  have hnd : ms.Nodup := by simpa using hc4
  have hmlt : ∀ t, t < ms.length → ms.getD t 0 < ops.size := fun t ht => by
    rw [List.getD_eq_getElem?_getD, List.getElem?_eq_getElem ht]
    have := List.all_eq_true.1 hc1 ms[t] (List.getElem_mem ht)
    simpa using this
  intro fuel
  have hdist : distinct ops.toList = true := by simp only [regionOk, Bool.and_eq_true] at hB; exact hB.1
  have fin : ∀ (listed : Array Bool) (us : Nat → Value) (vals : List Value) (w1 : World), At ms ops le W F w listed us vals w1 → Region.ready .any ops listed = [] → Q .normal (fills ops.toList 0 us a) w1 := fun listed us vals w1 hA hr => by
    have hall := ready_nil hB hA.size hr
    have hlen : vals.length = ms.length := by
      rcases Nat.lt_or_ge vals.length ms.length with h1 | h1
      · have := (hA.chain _ h1).1 (hall _ (hmlt _ h1))
        omega
      · have := hA.len
        omega
    exact he us vals w1 hA.to hlen hA.world hA.told fun i hi hm => hA.facts i hi (hall i hi) hm
  have count : ∀ (l : List Bool) (i : Nat), l[i]? = some false → ((l.set i true).filter (fun b => !b)).length + 1 = (l.filter (fun b => !b)).length := by
    intro l
    induction l with
    | nil => intro i h; simp at h
    | cons b r ih =>
      intro i h
      cases i with
      | zero =>
        obtain rfl : b = false := by simpa using h
        simp
      | succ i =>
        have := ih i (by simpa using h)
        rw [List.set_cons_succ, List.filter_cons, List.filter_cons]
        split <;> simp_all
  have unl : ∀ (listed : Array Bool) (i : Nat), listed.size = ops.size → i < ops.size → listed.getD i true = false → listed.toList[i]? = some false ∧ listed.getD i false = false := fun listed i hsz hi hl => by
    have hi2 : i < listed.size := by omega
    have : listed.getD i true = listed[i] := by simp [Array.getD, hi2]
    rw [this] at hl
    simp [hi2, hl, Array.getD]
  induction fuel with
  | zero =>
    intro listed us vals w1 hA hc
    have hr : Region.ready .any ops listed = [] := by
      cases hr : Region.ready .any ops listed with
      | nil => rfl
      | cons i r =>
        exfalso
        obtain ⟨o, ho, hli, _⟩ := ready_mem (show i ∈ Region.ready .any ops listed by rw [hr]; simp)
        have := count _ _ (unl listed i hA.size (Array.getElem?_eq_some_iff.1 ho).1 hli).1
        omega
    exact ⟨hr, fin listed us vals w1 hA hr⟩
  | succ fuel ih =>
    intro listed us vals w1 hA hc
    refine ⟨fin listed us vals w1 hA, fun i hi => ?_⟩
    obtain ⟨o, ho, hli, hdep⟩ := ready_mem hi
    have hio : i < ops.size := (Array.getElem?_eq_some_iff.1 ho).1
    have hi2 : i < listed.size := by rw [hA.size]; exact hio
    have hol : ops.toList[i]? = some o := by simpa using ho
    obtain ⟨h1, hlf⟩ := unl listed i hA.size hio hli
    have hcount := count _ _ h1
    have hstep := hs.get (i := i) hol
    rw [Nat.zero_add] at hstep
    have hon : ∀ e ∈ o.after, Region.binds .any e = true → e.on < i := fun e he hb0 => by
      simp only [regionOk, Bool.and_eq_true] at hB
      have hz := List.all_eq_true.1 hB.2 (o, i) (by rw [List.mem_zipIdx_iff_getElem?]; simpa using ho)
      obtain ⟨j, hj, rfl⟩ := Array.mem_iff_getElem.1 he
      have := (Array.all_eq_true.1 hz) j hj
      simpa [hb0] using this
    have hdeps : DepsM ms F us vals w1 (o.after.toList.filter (Region.binds .any)) := DepsM.of_all fun e he' => by
      obtain ⟨hm0, hb⟩ := List.mem_filter.1 he'
      have hm : e ∈ o.after := by simpa using hm0
      have hl := hdep e hm hb
      cases hx : ms.idxOf? e.on with
      | none => exact hA.facts e.on (by have := hon e hm hb; omega) hl hx
      | some t =>
        obtain ⟨ht, hg⟩ := idxOf_get hx
        have := (hA.chain t ht).1 (by rw [hg]; exact hl)
        show vals[t]? = some (us e.on)
        rw [hA.told t this, hg]
    -- the set once i is listed
    have hget : ∀ k, (listed.setIfInBounds i true).getD k false = if k = i then true else listed.getD k false := fun k => by
      by_cases hk : k = i
      · subst hk
        simp [Array.getD, hi2]
      · rw [if_neg hk, Array.getD_eq_getD_getElem?, Array.getElem?_setIfInBounds_ne (Ne.symm hk), ← Array.getD_eq_getD_getElem?]
    have hclosed : Closed ops (listed.setIfInBounds i true) := fun k o' ho' hk e he' hb => by
      rw [hget] at hk ⊢
      by_cases hki : k = i
      · subst hki
        rw [ho] at ho'
        cases ho'
        have := hdep e he' hb
        split
        · rfl
        · exact this
      · rw [if_neg hki] at hk
        have := hA.closed k o' ho' hk e he' hb
        split
        · rfl
        · exact this
    have hcnt2 : ((listed.setIfInBounds i true).toList.filter (fun b => !b)).length ≤ fuel := by
      have : (listed.setIfInBounds i true).toList = listed.toList.set i true := by simp
      rw [this]
      omega
    have hst := hstep us vals w1 _ (show Hid _ from rfl) hA.to hA.world hdeps
    unfold opAt
    simp only [ho]
    cases hx : ms.idxOf? i with
    | some t =>
      obtain ⟨ht, hg⟩ := idxOf_get hx
      rw [hx] at hst
      have hvt : vals.length = t := by
        have h2 : ¬ t < vals.length := fun h => by
          have := (hA.chain t ht).2 h
          rw [hg, hlf] at this
          cases this
        rcases Nat.eq_zero_or_pos t with h0 | h0
        · omega
        · have h3 := List.all_eq_true.1 hc2 t (List.mem_range.2 ht)
          have h4 : (reach ops ops.size (ms.getD t 0)).contains (ms.getD (t - 1) 0) = true := by
            rcases Bool.or_eq_true _ _ ▸ h3 with h | h
            · simp at h; omega
            · exact h
          have h5 : (listed.setIfInBounds i true).getD (ms.getD (t - 1) 0) false = true := hclosed.reach ops.size i (by rw [hget, if_pos rfl]) _ (by rw [← hg]; simpa using h4)
          have h6 : ms.getD (t - 1) 0 ≠ i := by
            rw [← hg]
            intro e
            rw [List.getD_eq_getElem?_getD, List.getD_eq_getElem?_getD, List.getElem?_eq_getElem (show t - 1 < ms.length by omega), List.getElem?_eq_getElem ht] at e
            have := (List.getElem_inj hnd).1 (by simpa using e)
            omega
          rw [hget, if_neg h6] at h5
          have := (hA.chain (t - 1) (by omega)).1 h5
          omega
      obtain ⟨hw, hK⟩ := hst hvt
      rw [if_pos hw]
      refine hK _ fun v w2 hl2 hW2 => ?_
      have e := fills_set ops.toList 0 i us a o v hdist hol
      rw [Nat.zero_add] at e
      rw [e]
      refine ih _ _ (vals ++ [v]) _ ⟨by simpa using hA.size, hclosed, hle _ _ _ hA.to hl2, hW2, fun t' ht' => ?_, fun t' ht' => ?_, by simp; omega, fun k hk hlk hmk => ?_⟩ hcnt2
      · rw [hget]
        by_cases hti : t' = t
        · subst hti
          rw [if_pos hg]
          simp; omega
        · have h6 : ms.getD t' 0 ≠ i := by
            rw [← hg]
            intro e
            rw [List.getD_eq_getElem?_getD, List.getD_eq_getElem?_getD, List.getElem?_eq_getElem ht', List.getElem?_eq_getElem ht] at e
            exact hti ((List.getElem_inj hnd).1 (by simpa using e))
          rw [if_neg h6, hA.chain t' ht']
          simp; omega
      · by_cases hti : t' = t
        · subst hti
          rw [← hvt, List.getElem?_append_right (Nat.le_refl _), Nat.sub_self, hvt, hg]
          simp [setAt]
        · have ht2 : t' < vals.length := by simp at ht'; omega
          rw [List.getElem?_append_left ht2, hA.told t' ht2]
          have h6 : ms.getD t' 0 ≠ i := by
            rw [← hg]
            intro e
            rw [List.getD_eq_getElem?_getD, List.getD_eq_getElem?_getD, List.getElem?_eq_getElem (show t' < ms.length by omega), List.getElem?_eq_getElem ht] at e
            exact hti ((List.getElem_inj hnd).1 (by simpa using e))
          simp only [setAt, if_neg h6]
      · have hki : k ≠ i := fun e => by rw [e, hx] at hmk; cases hmk
        rw [hget, if_neg hki] at hlk
        have e2 : setAt us i v k = us k := by simp [setAt, hki]
        rw [e2]
        exact hF k _ _ _ hl2 (hA.facts k hk hlk hmk)
    | none =>
      rw [hx] at hst
      have hb : vals.length ≤ bnd i := by
        have h3 := List.all_eq_true.1 hc3 i (List.mem_range.2 hio)
        rcases Bool.or_eq_true _ _ ▸ h3 with h | h
        · have := hA.len
          have h4 : ms.length ≤ bnd i := by simpa using h
          omega
        · rcases Nat.lt_or_ge (bnd i) vals.length with h5 | h5
          · exfalso
            have h6 := (hA.chain (bnd i) (by have := hA.len; omega)).2 h5
            have h7 := hA.closed.reach ops.size _ h6 i (by simpa using h)
            rw [hlf] at h7
            cases h7
          · exact h5
      have next : ∀ v w2, Grow w1 w2 → F i v w2 → anyOrder P ops Q fuel (listed.setIfInBounds i true) ((fills ops.toList 0 us a).put o.dst v) w2 := fun v w2 hg2 hf => by
        have e := fills_set ops.toList 0 i us a o v hdist hol
        rw [Nat.zero_add] at e
        rw [e]
        have hmi : ∀ t', t' < ms.length → ms.getD t' 0 ≠ i := fun t' ht' e => by
          have : i ∈ ms := by
            rw [← e, List.getD_eq_getElem?_getD, List.getElem?_eq_getElem ht']
            exact List.getElem_mem ht'
          rw [List.idxOf?_eq_none_iff] at hx
          exact hx this
        refine ih _ _ vals _ ⟨by simpa using hA.size, hclosed, hle _ _ _ hA.to (hgl _ _ hg2), hW _ _ _ hg2 hA.world, fun t' ht' => ?_, fun t' ht' => ?_, hA.len, fun k hk hlk hmk => ?_⟩ hcnt2
        · rw [hget, if_neg (hmi t' ht')]
          exact hA.chain t' ht'
        · rw [hA.told t' ht']
          simp only [setAt, if_neg (hmi t' (by have := hA.len; omega))]
        · rw [hget] at hlk
          by_cases hki : k = i
          · subst hki
            simpa [setAt] using hf
          · rw [if_neg hki] at hlk
            have e2 : setAt us i v k = us k := by simp [setAt, hki]
            rw [e2]
            exact hF k _ _ _ (hgl _ _ hg2) (hA.facts k hk hlk hmk)
      have hst := hst hb
      split
      · rename_i hw
        rw [if_pos hw] at hst
        exact hst _ next
      · rename_i hw
        rw [if_neg hw] at hst
        exact next undef w1 (Grow.refl _) hst

/-- from the start -/
theorem anyOrder_start (ms : List Nat) (le : World → World → Prop) (W : List Value → World → Prop) (F : Nat → Value → World → Prop) (bnd : Nat → Nat)
    (hle : ∀ x y z, le x y → le y z → le x z) (hgl : ∀ x y, Grow x y → le x y) (hW : ∀ vals x y, Grow x y → W vals x → W vals y) (hF : ∀ i u x y, le x y → F i u x → F i u y)
    (hB : regionOk ops = true) (hC : chainOk ops ms bnd = true) (h0 : W [] w) (hs : StagesOf P ops ms le W F bnd a w Q ops.toList 0)
    (he : ∀ us vals w1, le w w1 → vals.length = ms.length → W vals w1 → (∀ t, t < vals.length → vals[t]? = some (us (ms.getD t 0))) → (∀ i, i < ops.size → ms.idxOf? i = none → F i (us i) w1) → Q .normal (fills ops.toList 0 us a) w1) :
    anyOrder P ops Q ops.size (Array.replicate ops.size false) a w.drew := by
  obtain ⟨us, hus⟩ := fills_self ops.toList 0 a
  have hf : ∀ i, (Array.replicate ops.size false).getD i false = false := fun i => by
    by_cases hi : i < ops.size
    · simp [Array.getD, hi]
    · simp [Array.getD, hi]
  have h := anyOrder_stages hle hgl hW hF hB hC hs he ops.size (Array.replicate ops.size false) us [] w.drew ⟨by simp, (fun i o _ hl => by rw [hf] at hl; cases hl), hgl _ _ (Grow.drew w), hW _ _ _ (Grow.drew w) h0,
    (fun t _ => by rw [hf]; simp), (fun t ht => by simp at ht), Nat.zero_le _, (fun i _ hl => by rw [hf] at hl; cases hl)⟩ (by
    simp only [Array.toList_replicate]
    exact Nat.le_trans (List.length_filter_le _ _) (by simp))
  rw [hus] at h
  exact h
/-- The law, outside a round. -/
theorem wp_region_stages {id : Nat} (hm : P.follows .mixedOrders = true) (h : anyOrder P ops Q ops.size (Array.replicate ops.size false) a w.drew) : (Code.region id ops true).wp P Q a w := wp_region_any hm h.wp
/-- The law, within a round. -/
theorem wpIn_region_stages {id l n : Nat} (hm : P.follows .mixedOrders = true) (hnd : noDefer ops = true) (h : anyOrder P ops Q ops.size (Array.replicate ops.size false) a w.drew) : (Code.region id ops true).wpIn (Fence.wide.inRound l) n P Q a w :=
  wpIn_region_any hm (h.wpIn hnd)
end
end Go.Proofs.Ytamdejidkgnaeaa

namespace Go.Proofs.Ytamdejidkgnaeaa
open Go.RowKit

/-- of what lay before, only blocks of S have turned -/
structure Keep (S : Nat → Prop) (w w' : World) : Prop where
  os : w'.os = w.os
  tape : w'.tape = w.tape
  output : w'.output = w.output
  size : w.heap.size ≤ w'.heap.size
  block : ∀ k, k < w.heap.size → ¬ S k → w'.heap[k]? = w.heap[k]?

section
variable {S T : Nat → Prop} {w w1 w2 : World}
theorem Keep.refl (S : Nat → Prop) (w : World) : Keep S w w := ⟨rfl, rfl, rfl, Nat.le_refl _, fun _ _ _ => rfl⟩
theorem Keep.trans (h : Keep S w w1) (k : Keep T w1 w2) (hT : ∀ j, T j → S j ∨ w.heap.size ≤ j) : Keep S w w2 :=
  ⟨k.os.trans h.os, k.tape.trans h.tape, k.output.trans h.output, Nat.le_trans h.size k.size, fun j hj hs => (k.block j (by have := h.size; omega) (fun ht => by rcases hT j ht with h1 | h1; exact hs h1; omega)).trans (h.block j hj hs)⟩
theorem Keep.trans' (h : Keep S w w1) (k : Keep S w1 w2) : Keep S w w2 := h.trans k fun _ => Or.inl
theorem Keep.mono (h : Keep S w w1) (hS : ∀ j, S j → T j ∨ w.heap.size ≤ j) : Keep T w w1 := (Keep.refl T w).trans h hS
theorem Keep.grow (h : Grow w w1) : Keep S w w1 := ⟨h.os, h.tape, h.output, h.size, fun k hk _ => h.block k hk⟩
theorem Keep.grown {row : Option Nat} (h : w.grownBy w1 row) : Keep (fun k => row = some k) w w1 := ⟨h.os, h.tape, h.output, h.size, fun k hk hs => h.block k hk (fun e => hs e.symm)⟩
theorem Keep.setCell (w : World) (p : Addr) (u : Value) : Keep (fun k => k = p.block) w (w.setCell p u) := ⟨rfl, rfl, rfl, by simp [World.setCell], fun k _ hs => Below.heap_setCell w p u k hs⟩
theorem Keep.alloc (w : World) (o : Obj) : Keep S w (w.alloc o) := Keep.grow (Grow.alloc w o)
theorem Keep.drew (w : World) : Keep S w w.drew := Keep.grow (Grow.drew w)
theorem Keep.below (h : Keep S w w1) {B : Nat} (hB : ∀ k, S k → B ≤ k) (hw : B ≤ w.heap.size) : Below B w w1 := ⟨h.os, h.tape, h.output, h.size, fun k hk => h.block k (by omega) (fun hs => by have := hB k hs; omega)⟩
theorem Keep.blk (h : Keep S w w1) {g t : Nat} {cs : Array Value} (hb : Blk w g t cs) (hg : ¬ S g) : Blk w1 g t cs := (h.block g hb.lt hg).trans hb
theorem Keep.obj (h : Keep S w w1) {g : Nat} {o : Obj} (hb : w.heap[g]? = some o) (hg : ¬ S g) : w1.heap[g]? = some o := (h.block g (Array.getElem?_eq_some_iff.1 hb).1 hg).trans hb
theorem Keep.own (h : Keep S w w1) {base e size n : Nat} {v : Value} {xs : List Value} (ho : w.ownsRow base e size v n xs) (hg : ∀ k, v.ownBlock = some k → ¬ S k) : w1.ownsRow base e size v n xs := by
  refine ⟨ho.1, ?_⟩
  rcases ho.2 with h0 | ⟨g, cap, cur, rfl, hb, hg1, rest⟩
  · exact Or.inl h0
  · exact Or.inr ⟨g, cap, cur, rfl, hb, h.obj hg1 (hg g rfl), rest⟩
theorem Keep.reads (h : Keep S w w1) {B s n : Nat} {A : Option Addr} {xs : List Value} (hr : ReadsAt w B s A n xs) (hB : B ≤ w.heap.size) (hA : ∀ ad, A = some ad → ¬ S ad.block) : ReadsAt w1 B s A n xs :=
  ⟨hr.1, fun hn => by
    obtain ⟨b, off, e, hb, hc⟩ := hr.2 hn
    refine ⟨b, off, e, hb, fun j u hu => ?_⟩
    have := h.block b (by omega) (hA _ e)
    rw [World.cell?_of_block (a := ⟨b, off + j, none⟩) this]
    exact hc j u hu⟩
theorem Keep.reads' (h : Keep S w w1) {B s n : Nat} {A : Option Addr} {xs : List Value} (hr : ReadsAt w B s A n xs) (hB : B ≤ w.heap.size) (hA : 0 < n → ∀ ad, A = some ad → ¬ S ad.block) : ReadsAt w1 B s A n xs := by
  rcases Nat.eq_zero_or_pos n with h0 | h0
  · exact ⟨hr.1, fun hn => by omega⟩
  · exact h.reads hr hB (hA h0)
theorem Keep.cell (h : Keep S w w1) {p : Addr} (hp : p.block < w.heap.size) (hs : ¬ S p.block) : w1.cell? p = w.cell? p := World.cell?_of_block (h.block _ hp hs)
end

/-- what an owned slice's block is -/
theorem own_obj {w : World} {base e size n k : Nat} {v : Value} {xs : List Value} (h : w.ownsRow base e size v n xs) (hk : v.ownBlock = some k) : ∃ cur, w.heap[k]? = some (.cells cur e (0, 0)) := by
  rcases h.2 with ⟨rfl, _⟩ | ⟨g, cap, cur, rfl, _, hg, _⟩
  · simp [Value.ownBlock] at hk
  · simp [Value.ownBlock] at hk
    subst hk
    exact ⟨cur, hg⟩

/-- a fact of a value that lasts along le -/
structure FactOn (le : World → World → Prop) where
  p : Value → World → Prop
  mono : ∀ u w1 w2, le w1 w2 → p u w1 → p u w2
def FactOn.any {le : World → World → Prop} : FactOn le := ⟨fun _ _ => True, fun _ _ _ _ h => h⟩
def FactOn.is {le : World → World → Prop} (v : Value) : FactOn le := ⟨fun u _ => u = v, fun _ _ _ _ h => h⟩
/-- a row of one cell in a block that was just made -/
def FactOn.new1 {S : Nat → Prop} (B0 : Nat) (hS : ∀ k, S k → k < B0) (t : Nat) (x : Value) : FactOn (Keep S) :=
  ⟨fun u w => ∃ m, u = .slice (some ⟨m, 0, none⟩) 1 1 ∧ B0 ≤ m ∧ Blk w m t #[x], fun _ _ _ hk ⟨m, h1, h2, h3⟩ => ⟨m, h1, h2, hk.blk h3 (fun hs => by have := hS m hs; omega)⟩⟩
def FactsOn {le : World → World → Prop} (l : List (FactOn le)) (i : Nat) : Value → World → Prop := (l.getD i FactOn.any).p
theorem FactsOn.mono {le : World → World → Prop} (l : List (FactOn le)) : ∀ i u w1 w2, le w1 w2 → FactsOn l i u w1 → FactsOn l i u w2 := fun i => (l.getD i FactOn.any).mono

section
variable {P : Program} {ops : Array Oper} {ms : List Nat} {le : World → World → Prop} {W : List Value → World → Prop} {F : Nat → Value → World → Prop} {bnd : Nat → Nat} {a : Act} {w : World} {Q : Exit → Act → World → Prop}
theorem wanted_other {o : Oper} {t : Array Value} {j d : Nat} {b : Bool} (h : o.guard = some (j, b)) (hd : (ops[j]?).bind (·.dst) = some d) (hv : t[d]? = some (.bool (!b))) : Region.wanted o (yielded ops t) = false := by
  simp [Region.wanted, h, yielded, hd, hv]
theorem wanted_undef {o : Oper} {t : Array Value} {j d : Nat} {b : Bool} (h : o.guard = some (j, b)) (hd : (ops[j]?).bind (·.dst) = some d) (hv : t[d]? = some undef) : Region.wanted o (yielded ops t) = false := by
  simp [Region.wanted, h, yielded, hd, hv, undef]
/-- an operation of the chain -/
theorem stageOf_mem {i t : Nat} {o : Oper} (hi : ms.idxOf? i = some t) (h : ∀ (us : Nat → Value) (vals : List Value) (w1 : World) (a' : Act), Hid (a' = fills ops.toList 0 us a) → le w w1 → W vals w1 → DepsM ms F us vals w1 (o.after.toList.filter (Region.binds .any)) → vals.length = t →
    Region.wanted o (yielded ops a'.tmps) = true ∧ ∀ K : Act → World → Prop, (∀ v w2, le w1 w2 → W (vals ++ [v]) w2 → K (a'.put o.dst v) w2) → o.wp P a' w1 K Q) : StageOf P ops ms le W F bnd a w Q i o := by
  intro us vals w1 a' ha hl hw hd
  rw [hi]
  exact h us vals w1 a' ha hl hw hd
/-- another one, that is wanted -/
theorem stageOf_free {i : Nat} {o : Oper} (hi : ms.idxOf? i = none)
    (hw : ∀ (us : Nat → Value) (vals : List Value) (w1 : World) (a' : Act), Hid (a' = fills ops.toList 0 us a) → DepsM ms F us vals w1 (o.after.toList.filter (Region.binds .any)) → Region.wanted o (yielded ops a'.tmps) = true)
    (h : ∀ (us : Nat → Value) (vals : List Value) (w1 : World) (a' : Act), Hid (a' = fills ops.toList 0 us a) → le w w1 → W vals w1 → DepsM ms F us vals w1 (o.after.toList.filter (Region.binds .any)) → vals.length ≤ bnd i →
      ∀ K : Act → World → Prop, (∀ v w2, Grow w1 w2 → F i v w2 → K (a'.put o.dst v) w2) → o.wp P a' w1 K Q) : StageOf P ops ms le W F bnd a w Q i o := by
  intro us vals w1 a' ha hl hW hd
  rw [hi]
  intro hv
  rw [if_pos (hw us vals w1 a' ha hd)]
  exact h us vals w1 a' ha hl hW hd hv
theorem sF {i : Nat} {o : Oper} (hi : ms.idxOf? i = none) (hg : o.guard = none)
    (h : ∀ (us : Nat → Value) (vals : List Value) (w1 : World) (a' : Act), Hid (a' = fills ops.toList 0 us a) → le w w1 → W vals w1 → DepsM ms F us vals w1 (o.after.toList.filter (Region.binds .any)) → vals.length ≤ bnd i →
      ∀ K : Act → World → Prop, (∀ v w2, Grow w1 w2 → F i v w2 → K (a'.put o.dst v) w2) → o.wp P a' w1 K Q) : StageOf P ops ms le W F bnd a w Q i o := stageOf_free hi (fun _ _ _ _ _ _ => wanted_none hg) h
theorem sV {P : Program} {Q : Exit → Act → World → Prop} {o : Oper} {a' : Act} {w1 : World} {v : Value} {F : Value → World → Prop} {K : Act → World → Prop} (hK : ∀ v w2, Grow w1 w2 → F v w2 → K (a'.put o.dst v) w2) (hF : F v w1)
    (hrun : (execOp a'.eval o).run P w1 = .ok (.value v) w1 := by go_simp) : o.wp P a' w1 K Q := step_value hrun (hK _ _ (Grow.refl _) hF)
/-- one that is not wanted -/
theorem stageOf_skip {i : Nat} {o : Oper} (hi : ms.idxOf? i = none)
    (hw : ∀ (us : Nat → Value) (vals : List Value) (w1 : World) (a' : Act), Hid (a' = fills ops.toList 0 us a) → DepsM ms F us vals w1 (o.after.toList.filter (Region.binds .any)) → Region.wanted o (yielded ops a'.tmps) = false)
    (h : ∀ w1, F i undef w1) : StageOf P ops ms le W F bnd a w Q i o := by
  intro us vals w1 a' ha hl hW hd
  rw [hi]
  intro hv
  rw [if_neg (by rw [hw us vals w1 a' ha hd]; simp)]
  exact h w1
end
theorem own_base {w : World} {base base' e size n : Nat} {v : Value} {xs : List Value} (h : w.ownsRow base e size v n xs) (hb : base' ≤ base) : w.ownsRow base' e size v n xs := by
  refine ⟨h.1, ?_⟩
  rcases h.2 with h1 | ⟨g, cap, cur, h1, h2, h3⟩
  · exact Or.inl h1
  · exact Or.inr ⟨g, cap, cur, h1, Nat.le_trans hb h2, h3⟩
end Go.Proofs.Ytamdejidkgnaeaa

namespace Go.Proofs.Ytamdejidkgnaeaa
open Go.RowKit

/-- where a slice lies that is cut behind its first k elements -/
def cutA (A : Option Addr) (c k s : Nat) : Option Addr := if c = k then A else A.map (·.add (k * s))

section
variable {w : World} {B n c s : Nat} {A : Option Addr} {xs : List Value}
theorem ReadsAt.head (h : ReadsAt w B s A n xs) (k : Nat) (hk : k ≤ n) : ReadsAt w B s A k (xs.take (k * s)) := by
  refine ⟨by rw [List.length_take, h.1, Nat.min_eq_left (Nat.mul_le_mul_right _ hk)], fun hp => ?_⟩
  obtain ⟨b, off, e, hb, hc⟩ := h.2 (by omega)
  refine ⟨b, off, e, hb, fun j u hu => hc j u ?_⟩
  rw [List.getElem?_take] at hu
  split at hu
  · exact hu
  · cases hu
theorem ReadsAt.tail (h : ReadsAt w B s A n xs) (k : Nat) (hk : k ≤ n) (hnc : n ≤ c) : ReadsAt w B s (cutA A c k s) (n - k) (xs.drop (k * s)) := by
  refine ⟨by rw [List.length_drop, h.1, Nat.sub_mul], fun hp => ?_⟩
  obtain ⟨b, off, e, hb, hc⟩ := h.2 (by omega)
  subst e
  have hck : ¬ c = k := by omega
  refine ⟨b, off + k * s, ?_, hb, fun j u hu => ?_⟩
  · rw [cutA, if_neg hck]
    unfold Addr.add
    by_cases h0 : k * s = 0 <;> simp [h0]
  · rw [List.getElem?_drop] at hu
    have := hc _ u hu
    rwa [← Nat.add_assoc] at this
theorem BytesAt.head {l : List UInt8} (h : BytesAt w B A n l) (k : Nat) (hk : k ≤ n) : BytesAt w B A k (l.take k) := by
  have := ReadsAt.head h k hk
  rw [Nat.mul_one, ← List.map_take] at this
  exact this
theorem BytesAt.tail {l : List UInt8} (h : BytesAt w B A n l) (k : Nat) (hk : k ≤ n) (hnc : n ≤ c) : BytesAt w B (cutA A c k 1) (n - k) (l.drop k) := by
  have := ReadsAt.tail h k hk hnc
  rw [Nat.mul_one, ← List.map_drop] at this
  exact this
end

section
variable {P : Program} {w : World} {t e : TypeId} {z : Value} {size bytes : Nat}
theorem run_cut_head (T : AppTy P t e z size bytes) (A : Option Addr) (n c k : Nat) (kd : IntKind) (i : Int) (hi : i = (k : Int)) (hk : k ≤ c) (w : World) : (Instr.slice t (.slice A n c) none (some (.int kd i)) none).run P w = .ok (.slice A k c) w := by
  obtain ⟨inf, h1, _, hs, _⟩ := T.info
  subst hi
  have h0 : (0 : Int) ≤ (k : Int) := by omega
  simp [Instr.slice, Instr.sliceBounds, Instr.sliceBound, asIntOf, run_underlying T.ht, sizeOf, typeInfo, h1, h0, hk, Sem.run_bind, Sem.run_pure, Result.andThen]
  intro _
  cases A with
  | none => rfl
  | some a => simp [Addr.add]
theorem run_cut_tail (T : AppTy P t e z size bytes) (A : Option Addr) (n c k : Nat) (kd : IntKind) (i : Int) (hi : i = (k : Int)) (hk : k ≤ n) (w : World) : (Instr.slice t (.slice A n c) (some (.int kd i)) none none).run P w = .ok (.slice (cutA A c k size) (n - k) (c - k)) w := by
  obtain ⟨inf, h1, _, hs, _⟩ := T.info
  subst hi
  have h0 : (0 : Int) ≤ (k : Int) := by omega
  simp [Instr.slice, Instr.sliceBounds, Instr.sliceBound, asIntOf, run_underlying T.ht, sizeOf, typeInfo, h1, hs, h0, hk, Sem.run_bind, Sem.run_pure, Result.andThen, cutA]
theorem run_cut_mid (T : AppTy P t e z size bytes) (A : Option Addr) (n c lo hi : Nat) (kd kd2 : IntKind) (i j : Int) (h1 : i = (lo : Int)) (h2 : j = (hi : Int)) (hl : lo ≤ hi) (hc : hi ≤ c) (w : World) : (Instr.slice t (.slice A n c) (some (.int kd i)) (some (.int kd2 j)) none).run P w = .ok (.slice (cutA A c lo size) (hi - lo) (c - lo)) w := by
  obtain ⟨inf, h3, _, hs, _⟩ := T.info
  subst h1 h2
  have h0 : (0 : Int) ≤ (lo : Int) := by omega
  have h4 : (0 : Int) ≤ (hi : Int) := by omega
  simp [Instr.slice, Instr.sliceBounds, Instr.sliceBound, asIntOf, run_underlying T.ht, sizeOf, typeInfo, h3, hs, h0, h4, hl, hc, Sem.run_bind, Sem.run_pure, Result.andThen, cutA]
end

section
variable {P : Program} {t e : TypeId} {z : Value} {size bytes : Nat} {o : Oper} {a' : Act} {w1 : World} {K : Act → World → Prop} {Q : Exit → Act → World → Prop}
theorem eval_tmp {a : Act} {s : Nat} {v : Value} (h : a.tmps[s]? = some v) : a.eval (.tmp s) = v := by
  simp [Act.eval, Array.getD_eq_getD_getElem?, h]
theorem run_at (T : AppTy P t e z size bytes) (x : Value) (lo hi mx : Option Value) (w : World) : (Instr.sliceAt t x lo hi mx).run P w = (Instr.slice t x lo hi mx).run P w := by
  unfold Instr.sliceAt
  simp [run_underlying T.ht]
theorem step_cut_head (T : AppTy P t e z size bytes) {s h : Nat} (ho : o.op = .slice t (.tmp s) none (some (.tmp h)) none) {A : Option Addr} {n c : Nat} {kd : IntKind} {i : Int} (q1 : a'.tmps[s]? = some (.slice A n c)) (q2 : a'.tmps[h]? = some (.int kd i)) (k : Nat) (hi : i = (k : Int)) (hk : k ≤ c)
    (hK : K (a'.put o.dst (.slice A k c)) w1) : o.wp P a' w1 K Q := by
  refine step_value (v := .slice A k c) (w2 := w1) ?_ hK
  simp only [execOp, ho, Option.map_some, Option.map_none, eval_tmp q1, eval_tmp q2, Sem.run_bind, run_at T, run_cut_head T A n c k kd i hi hk, Result.andThen_ok, Sem.run_pure]
theorem step_cut_tail (T : AppTy P t e z size bytes) {s h : Nat} (ho : o.op = .slice t (.tmp s) (some (.tmp h)) none none) {A : Option Addr} {n c : Nat} {kd : IntKind} {i : Int} (q1 : a'.tmps[s]? = some (.slice A n c)) (q2 : a'.tmps[h]? = some (.int kd i)) (k : Nat) (hi : i = (k : Int)) (hk : k ≤ n)
    (hK : K (a'.put o.dst (.slice (cutA A c k size) (n - k) (c - k))) w1) : o.wp P a' w1 K Q := by
  refine step_value (v := .slice (cutA A c k size) (n - k) (c - k)) (w2 := w1) ?_ hK
  simp only [execOp, ho, Option.map_some, Option.map_none, eval_tmp q1, eval_tmp q2, Sem.run_bind, run_at T, run_cut_tail T A n c k kd i hi hk, Result.andThen_ok, Sem.run_pure]
theorem step_cut_mid (T : AppTy P t e z size bytes) {s h : Nat} {x : Operand} (ho : o.op = .slice t (.tmp s) (some x) (some (.tmp h)) none) {A : Option Addr} {n c : Nat} {kd kd2 : IntKind} {i j : Int} (q1 : a'.tmps[s]? = some (.slice A n c)) (q2 : a'.eval x = .int kd i) (q3 : a'.tmps[h]? = some (.int kd2 j)) (lo hi : Nat) (h1 : i = (lo : Int)) (h2 : j = (hi : Int)) (hl : lo ≤ hi) (hc : hi ≤ c)
    (hK : K (a'.put o.dst (.slice (cutA A c lo size) (hi - lo) (c - lo))) w1) : o.wp P a' w1 K Q := by
  refine step_value (v := .slice (cutA A c lo size) (hi - lo) (c - lo)) (w2 := w1) ?_ hK
  simp only [execOp, ho, Option.map_some, Option.map_none, eval_tmp q1, q2, eval_tmp q3, Sem.run_bind, run_at T, run_cut_mid T A n c lo hi kd kd2 i j h1 h2 hl hc, Result.andThen_ok, Sem.run_pure]
end

/-- rows of slices, told one by one -/
def RowsOk (w : World) : List (Option Addr × Nat × Nat) → List (List UInt8) → Prop
  | [], [] => True
  | v :: vs, l :: ls => (v.2.1 ≤ v.2.2 ∧ v.2.2 ≤ maxLen ∧ BytesAt w w.heap.size v.1 v.2.1 l) ∧ RowsOk w vs ls
  | _, _ => False
def sliceOf (v : Option Addr × Nat × Nat) : Value := .slice v.1 v.2.1 v.2.2
theorem RowsOk.get {w : World} : ∀ {vs : List (Option Addr × Nat × Nat)} {ls : List (List UInt8)}, RowsOk w vs ls → vs.length = ls.length ∧ ∀ (j : Nat) (l : List UInt8), ls[j]? = some l → ∃ v, vs[j]? = some v ∧ v.2.1 ≤ v.2.2 ∧ v.2.2 ≤ maxLen ∧ BytesAt w w.heap.size v.1 v.2.1 l
  | [], [], _ => ⟨rfl, fun j l h => by simp at h⟩
  | [], _ :: _, h => h.elim
  | _ :: _, [], h => h.elim
  | v :: vs, l :: ls, h => by
    obtain ⟨h1, h2⟩ := RowsOk.get h.2
    refine ⟨by simp [h1], fun j l' hl => ?_⟩
    cases j with
    | zero =>
      obtain rfl : l = l' := by simpa using hl
      exact ⟨v, rfl, h.1⟩
    | succ j => exact h2 j l' (by simpa using hl)
/-- a row of slices that was just made -/
theorem RowsAt.made (w : World) (t : Nat) (vs : List (Option Addr × Nat × Nat)) (ls : List (List UInt8)) (h : RowsOk w vs ls) :
    RowsAt (w.alloc (.cells (vs.map sliceOf).toArray t)) (w.heap.size + 1) (some ⟨w.heap.size, 0, none⟩) ls.length ls := by
  obtain ⟨h1, h2⟩ := h.get
  refine ⟨rfl, fun _ => ⟨w.heap.size, 0, rfl, by omega, fun j l hl => ?_⟩⟩
  obtain ⟨v, hv, q1, q2, q3⟩ := h2 j l hl
  refine ⟨v.1, v.2.1, v.2.2, ?_, q1, q2, (q3.below (Below.alloc (Below.refl _ _) (Nat.le_refl _) _)).more (by omega)⟩
  rw [(Blk.new w t _).cell, Nat.zero_add]
  simp [hv, sliceOf]

/-- 'make([]T, n)', one cell an element -/
theorem run_make_cells {P : Program} {t e : TypeId} {z : Value} {bytes : Nat} (T : AppTy P t e z 1 bytes) (hz1 : z.cells = #[z]) (kl kc : IntKind) (n : Nat) (hb : bytes * n ≤ 281474976710656) (h63 : n ≤ 9223372036854775807) (w : World) :
    (Instr.makeSlice t (.int kl (n : Int)) (.int kc (n : Int))).run P w = .ok (.slice (some ⟨w.heap.size, 0, none⟩) n n) (w.alloc (.cells (List.replicate n z).toArray e)) := by
  obtain ⟨i, hi, hz, hs, hby⟩ := T.info
  have hb' : (i.bytes : Int) * (n : Int) ≤ 281474976710656 := by
    rw [hby]
    have h : ((bytes * n : Nat) : Int) ≤ 281474976710656 := by omega
    rwa [Int.natCast_mul] at h
  have hr := run_make (P := P) w t e i z T.ht hi hz kl kc (n : Int) (n : Int) (by omega) (by omega) hb' (by omega)
  have e1 : madeCells z.cells (n * i.size) = (List.replicate n z).toArray := by
    rw [hs, Nat.mul_one, hz1, ← toList_madeCells_one z n]
  rw [hr]
  simp only [Int.toNat_natCast, e1]
theorem xor_u32 (a b : BitVec 32) : bits BinOp.xor IntKind.u32 (a.toNat : Int) (b.toNat : Int) = ((a ^^^ b).toNat : Int) := by
  rw [BitVec.toNat_xor]
  exact u32_xor_nat _ _ a.isLt b.isLt
theorem xor_u8 (a b : UInt8) : bits BinOp.xor IntKind.u8 (a.toNat : Int) (b.toNat : Int) = ((a ^^^ b).toNat : Int) := by
  rw [UInt8.toNat_xor]
  exact u8_xor_nat _ _ a.toNat_lt b.toNat_lt
/-- a row of bytes that was just made -/
theorem BytesAt.made (w : World) (t : Nat) (l : List UInt8) : BytesAt (w.alloc (.cells (l.map b8).toArray t)) (w.heap.size + 1) (some ⟨w.heap.size, 0, none⟩) l.length l := by
  have := ReadsAt.made w t (l.map b8)
  rw [List.length_map] at this
  exact this
theorem not_u8 (x : UInt8) : bits BinOp.xor IntKind.u8 IntKind.u8.max (x.toNat : Int) = ((255 ^^^ x : UInt8).toNat : Int) := by
  have h : IntKind.u8.max = (((255 : UInt8)).toNat : Int) := by decide
  rw [h]
  exact xor_u8 255 x
theorem wrap_u32 (x : Int) (h0 : 0 ≤ x) (h1 : x < 4294967296) : IntKind.u32.wrap x = x := by
  have e2 : IntKind.u32.wrap x = x % 4294967296 := by simp [IntKind.wrap, IntKind.bits, IntKind.signed]
  rw [e2]
  exact Int.emod_eq_of_lt h0 h1
theorem wrap_u8 (x : Int) (h0 : 0 ≤ x) (h1 : x < 256) : IntKind.u8.wrap x = x := by
  have e2 : IntKind.u8.wrap x = x % 256 := by simp [IntKind.wrap, IntKind.bits, IntKind.signed]
  rw [e2]
  exact Int.emod_eq_of_lt h0 h1
end Go.Proofs.Ytamdejidkgnaeaa
