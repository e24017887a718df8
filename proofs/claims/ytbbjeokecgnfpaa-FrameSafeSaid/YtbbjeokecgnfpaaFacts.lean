/-
  A law for a region that draws its order and whose operations make memory or call: each operation leaves a fact of its value, which nothing that follows breaks; whatever order is drawn, at the end all facts hold. No program is in sight.
-/
import Derived.Orders
import Derived.Below
import Derived.Deep.Draws
namespace Go.Proofs.Ytbbjeokecgnfpaa
open Go.RowKit

/-- all that was there is as it was -/
def Grow (w w' : World) : Prop := Below w.heap.size w w'
theorem Grow.refl (w : World) : Grow w w := Below.refl _ _
theorem Grow.trans {a b c : World} (h : Grow a b) (k : Grow b c) : Grow a c := Below.trans h (Below.mono k (Below.size h))
theorem Grow.drew (w : World) : Grow w w.drew := Below.drew (Below.refl _ _)
theorem Grow.drewN (w : World) (q : Nat) : Grow w (w.drewN q) := ⟨rfl, rfl, rfl, Nat.le_refl _, fun _ _ => rfl⟩
theorem Grow.alloc (w : World) (o : Obj) : Grow w (w.alloc o) := Below.alloc (Below.refl _ _) (Nat.le_refl _) o
theorem Grow.below {w w' : World} (h : Grow w w') : Below w.heap.size w w' := h

/-- the frame in which operation number k + j of the list has put us (k + j) -/
def fills : List Oper → Nat → (Nat → Value) → Act → Act
  | [], _, _, a => a
  | o :: r, k, us, a => fills r (k + 1) us (a.put o.dst (us k))
/-- no two operations write one slot -/
def distinct : List Oper → Bool
  | [] => true
  | o :: r => (match o.dst with
    | some d => r.all fun x => x.dst != some d
    | none => true) && distinct r
def setAt (us : Nat → Value) (i : Nat) (v : Value) : Nat → Value := fun k => if k = i then v else us k

theorem put_put (a : Act) (d : Option Tmp) (u v : Value) : (a.put d u).put d v = a.put d v := by
  cases d with
  | none => rfl
  | some d => simp [Act.put]
theorem fills_congr : ∀ (l : List Oper) (k : Nat) (us us' : Nat → Value) (a : Act), (∀ j, k ≤ j → us j = us' j) → fills l k us a = fills l k us' a
  | [], _, _, _, _, _ => rfl
  | o :: r, k, us, us', a, h => by
    rw [fills, fills, h k (Nat.le_refl _)]
    exact fills_congr r (k + 1) us us' _ fun j hj => h j (by omega)
theorem fills_put : ∀ (l : List Oper) (k : Nat) (us : Nat → Value) (a : Act) (d : Option Tmp) (v : Value), (∀ e, d = some e → l.all (fun x => x.dst != some e) = true) → (fills l k us a).put d v = fills l k us (a.put d v)
  | [], _, _, _, _, _, _ => rfl
  | o :: r, k, us, a, d, v, h => by
    rw [fills, fills, fills_put r (k + 1) us _ d v fun e he => by have := h e he; simp only [List.all_cons, Bool.and_eq_true] at this; exact this.2]
    rw [Act.put_comm]
    intro e he hd
    have := h e hd
    simp [he] at this
theorem fills_set : ∀ (l : List Oper) (k i : Nat) (us : Nat → Value) (a : Act) (o : Oper) (v : Value), distinct l = true → l[i]? = some o → (fills l k us a).put o.dst v = fills l k (setAt us (k + i) v) a
  | [], _, _, _, _, _, _, _, h => by simp at h
  | o' :: r, k, 0, us, a, o, v, hd, h => by
    obtain rfl : o' = o := by simpa using h
    rw [fills, fills]
    simp only [distinct, Bool.and_eq_true] at hd
    have hd1 : ∀ e, o'.dst = some e → r.all (fun x => x.dst != some e) = true := fun e he => by
      have := hd.1
      rw [he] at this
      exact this
    have e1 : setAt us (k + 0) v k = v := by simp [setAt]
    rw [fills_put r (k + 1) us _ o'.dst v hd1, put_put, e1]
    exact fills_congr r (k + 1) _ _ _ fun j hj => by
      have e2 : j ≠ k + 0 := by omega
      rw [setAt, if_neg e2]
  | o' :: r, k, i + 1, us, a, o, v, hd, h => by
    simp only [distinct, Bool.and_eq_true] at hd
    have e1 : setAt us (k + (i + 1)) v k = us k := by simp [setAt]
    rw [fills, fills, fills_set r (k + 1) i us _ o v hd.2 (by simpa using h), e1]
    have : k + 1 + i = k + (i + 1) := by omega
    rw [this]
theorem put_self (a : Act) (d : Option Tmp) (u : Value) (h : ∀ e, d = some e → u = a.tmps.getD e undef) : a.put d u = a := by
  cases d with
  | none => rfl
  | some e =>
    rw [h e rfl, Act.put]
    have : a.tmps.setIfInBounds e (a.tmps.getD e undef) = a.tmps := by
      apply Array.ext_getElem?
      intro j
      by_cases hj : e = j
      · subst hj
        by_cases hlt : e < a.tmps.size
        · simp [hlt, Array.getD]
        · simp [hlt]
      · rw [Array.getElem?_setIfInBounds_ne hj]
    simp only [this]
theorem fills_self : ∀ (l : List Oper) (k : Nat) (a : Act), ∃ us, fills l k us a = a
  | [], _, _ => ⟨fun _ => undef, rfl⟩
  | o :: r, k, a => by
    obtain ⟨us, h⟩ := fills_self r (k + 1) a
    refine ⟨setAt us k (match o.dst with | some d => a.tmps.getD d undef | none => undef), ?_⟩
    have e1 : ∀ u, setAt us k u k = u := fun u => by simp [setAt]
    rw [fills, e1, put_self a o.dst _ (fun e he => by rw [he])]
    rw [fills_congr r (k + 1) _ us a fun j hj => by
      have : j ≠ k := by omega
      simp [setAt, this]]
    exact h

section
variable (P : Program) (ops : Array Oper) (F : Nat → Value → World → Prop) (a : Act) (w : World) (Q : Exit → Act → World → Prop)
/-- the facts of what an operation waits for -/
def Deps (us : Nat → Value) (w : World) : List Edge → Prop
  | [] => True
  | e :: r => F e.on (us e.on) w ∧ Deps us w r
/-- what is asked of operation number i -/
def StepOf (i : Nat) (o : Oper) : Prop := ∀ (us : Nat → Value) (w1 : World) (a' : Act), Hid (a' = fills ops.toList 0 us a) → Grow w w1 → Deps F us w1 (o.after.toList.filter (Region.binds .any)) →
  if Region.wanted o (yielded ops a'.tmps) then
    ∀ K : Act → World → Prop, (∀ v w2, Grow w1 w2 → F i v w2 → K (a'.put o.dst v) w2) → o.wp P a' w1 K Q
  else F i undef w1
def StepsOf : List Oper → Nat → Prop
  | [], _ => True
  | o :: r, i => StepOf P ops F a w Q i o ∧ StepsOf r (i + 1)
end

/-- each operation waits for earlier ones alone; no two write one slot -/
def regionOk (ops : Array Oper) : Bool := distinct ops.toList && (ops.toList.zipIdx.all fun p => p.1.after.all fun e => decide (e.on < p.2))

section
variable {P : Program} {ops : Array Oper} {F : Nat → Value → World → Prop} {a : Act} {w : World} {Q : Exit → Act → World → Prop}
theorem StepsOf.get : ∀ {l : List Oper} {k i : Nat} {o : Oper}, StepsOf P ops F a w Q l k → l[i]? = some o → StepOf P ops F a w Q (k + i) o
  | [], _, _, _, _, h => by simp at h
  | o' :: r, k, 0, o, hs, h => by
    obtain rfl : o' = o := by simpa using h
    exact hs.1
  | o' :: r, k, i + 1, o, hs, h => by
    have := StepsOf.get (i := i) hs.2 (by simpa using h)
    rwa [show k + 1 + i = k + (i + 1) by omega] at this
theorem Deps.of_all {us : Nat → Value} {w : World} : ∀ {l : List Edge}, (∀ e ∈ l, F e.on (us e.on) w) → Deps F us w l
  | [], _ => trivial
  | e :: _, h => ⟨h e (by simp), Deps.of_all fun e' he => h e' (by simp [he])⟩

theorem ready_mem {i : Nat} {listed : Array Bool} (h : i ∈ Region.ready .any ops listed) : ∃ o, ops[i]? = some o ∧ listed.getD i true = false ∧ ∀ e ∈ o.after, Region.binds .any e = true → listed.getD e.on false = true := by
  simp only [Region.ready, List.mem_filter, List.mem_range, Bool.and_eq_true, Bool.not_eq_true'] at h
  obtain ⟨h1, h2, h3⟩ := h
  refine ⟨ops[i], by simp [h1], h2, fun e he hb => ?_⟩
  simp only [h1, getElem?_pos, Option.map_some, Option.getD_some] at h3
  obtain ⟨j, hj, rfl⟩ := Array.mem_iff_getElem.1 he
  have := (Array.all_eq_true.1 h3) j hj
  simpa [hb] using this
theorem ready_nil {listed : Array Bool} (hB : regionOk ops = true) (hsz : listed.size = ops.size) (h : Region.ready .any ops listed = []) : ∀ i, i < ops.size → listed.getD i false = true := by
  intro i
  induction i using Nat.strongRecOn with
  | ind i ih =>
    intro hi
    rcases Bool.eq_false_or_eq_true (listed.getD i false) with hl | hl
    · exact hl
    · exfalso
      have hlt : i < listed.size := by omega
      have hmem : i ∈ Region.ready .any ops listed := by
        simp only [Region.ready, List.mem_filter, List.mem_range, Bool.and_eq_true, Bool.not_eq_true']
        refine ⟨hi, ?_, ?_⟩
        · have e1 : listed.getD i false = listed[i] := by simp [Array.getD, hlt]
          have e2 : listed.getD i true = listed[i] := by simp [Array.getD, hlt]
          rw [e2, ← e1]
          exact hl
        · simp only [hi, getElem?_pos, Option.map_some, Option.getD_some]
          rw [Array.all_eq_true]
          intro j hj
          simp only [regionOk, Bool.and_eq_true] at hB
          have hz := List.all_eq_true.1 hB.2 (ops[i], i) (by
            rw [List.mem_zipIdx_iff_getElem?]
            simp [hi])
          have := (Array.all_eq_true.1 hz) j hj
          simp only [decide_eq_true_eq] at this
          have := ih _ this (by omega)
          simp [this]
      rw [h] at hmem
      cases hmem

theorem wpAny_facts (hF : ∀ i u w1 w2, Grow w1 w2 → F i u w1 → F i u w2) (hB : regionOk ops = true) (hs : StepsOf P ops F a w Q ops.toList 0)
    (he : ∀ us w1, Grow w w1 → (∀ i, i < ops.size → F i (us i) w1) → Q .normal (fills ops.toList 0 us a) w1) :
    ∀ (fuel : Nat) (listed : Array Bool) (us : Nat → Value) (w1 : World), listed.size = ops.size → (∀ i, i < ops.size → listed.getD i false = true → F i (us i) w1) → Grow w w1 →
      (listed.toList.filter (fun b => !b)).length ≤ fuel → wpAny P .any ops Q fuel listed (fills ops.toList 0 us a) w1 := by
  intro fuel
  have hdist : distinct ops.toList = true := by simp only [regionOk, Bool.and_eq_true] at hB; exact hB.1
  have fin : ∀ (listed : Array Bool) (us : Nat → Value) (w1 : World), listed.size = ops.size → (∀ i, i < ops.size → listed.getD i false = true → F i (us i) w1) → Grow w w1 →
      Region.ready .any ops listed = [] → Q .normal (fills ops.toList 0 us a) w1 := fun listed us w1 hsz hl hg hr =>
    he us w1 hg fun i hi => hl i hi (ready_nil hB hsz hr i hi)
  have count : ∀ (l : List Bool) (i : Nat), l[i]? = some false → ((l.set i true).filter (fun b => !b)).length + 1 = (l.filter (fun b => !b)).length := by
    intro l
    induction l with
    | nil => intro i h; simp at h
    | cons b r ih =>
      intro i h
      cases i with
      | zero =>
        obtain rfl : b = false := by simpa using h
        simp
      | succ i =>
        have := ih i (by simpa using h)
        rw [List.set_cons_succ, List.filter_cons, List.filter_cons]
        split <;> simp_all
  induction fuel with
  | zero =>
    intro listed us w1 hsz hl hg hc
    have hr : Region.ready .any ops listed = [] := by
      cases hr : Region.ready .any ops listed with
      | nil => rfl
      | cons i r =>
        exfalso
        obtain ⟨o, ho, hli, _⟩ := ready_mem (show i ∈ Region.ready .any ops listed by rw [hr]; simp)
        have hi : i < listed.size := by rw [hsz]; exact (Array.getElem?_eq_some_iff.1 ho).1
        have h1 : listed.toList[i]? = some false := by
          have : listed.getD i true = listed[i] := by simp [Array.getD, hi]
          rw [this] at hli
          simp [hi, hli]
        have := count _ _ h1
        omega
    exact ⟨hr, fin listed us w1 hsz hl hg hr⟩
  | succ fuel ih =>
    intro listed us w1 hsz hl hg hc
    refine ⟨fin listed us w1 hsz hl hg, fun i hi => ?_⟩
    obtain ⟨o, ho, hli, hdep⟩ := ready_mem hi
    have hio : i < ops.size := (Array.getElem?_eq_some_iff.1 ho).1
    have hi2 : i < listed.size := by omega
    have hol : ops.toList[i]? = some o := by simpa using ho
    have h1 : listed.toList[i]? = some false := by
      have : listed.getD i true = listed[i] := by simp [Array.getD, hi2]
      rw [this] at hli
      simp [hi2, hli]
    have hcount := count _ _ h1
    have hstep := hs.get (i := i) hol
    rw [Nat.zero_add] at hstep
    have hon : ∀ e ∈ o.after, e.on < i := fun e he => by
      simp only [regionOk, Bool.and_eq_true] at hB
      have hz := List.all_eq_true.1 hB.2 (o, i) (by rw [List.mem_zipIdx_iff_getElem?]; simpa using ho)
      obtain ⟨j, hj, rfl⟩ := Array.mem_iff_getElem.1 he
      have := (Array.all_eq_true.1 hz) j hj
      simpa using this
    have hdeps : Deps F us w1 (o.after.toList.filter (Region.binds .any)) := Deps.of_all fun e he' => by
      obtain ⟨hm0, hb⟩ := List.mem_filter.1 he'
      have hm : e ∈ o.after := by simpa using hm0
      exact hl e.on (by have := hon e hm; omega) (hdep e hm hb)
    have next : ∀ v w2, Grow w1 w2 → F i v w2 → wpAny P .any ops Q fuel (listed.setIfInBounds i true) ((fills ops.toList 0 us a).put o.dst v) w2 := fun v w2 hg2 hf => by
      have e := fills_set ops.toList 0 i us a o v hdist hol
      rw [Nat.zero_add] at e
      rw [e]
      refine ih _ _ _ (by simpa using hsz) (fun k hk hlk => ?_) (hg.trans hg2) ?_
      · by_cases hki : k = i
        · subst hki
          simpa [setAt] using hf
        · have e2 : setAt us i v k = us k := by simp [setAt, hki]
          rw [e2]
          refine hF k _ _ _ hg2 (hl k hk ?_)
          rw [Array.getD_eq_getD_getElem?, Array.getElem?_setIfInBounds_ne (Ne.symm hki), ← Array.getD_eq_getD_getElem?] at hlk
          exact hlk
      · have : (listed.setIfInBounds i true).toList = listed.toList.set i true := by simp
        rw [this]
        omega
    have hst := hstep us w1 _ (show Hid _ from rfl) hg hdeps
    unfold wpOp
    simp only [ho]
    split
    · rename_i hw
      rw [if_pos hw] at hst
      exact Or.inl (hst _ next)
    · rename_i hw
      rw [if_neg hw] at hst
      exact next undef w1 (Grow.refl _) hst

theorem wanted_none {o : Oper} {y : Nat → Option Bool} (h : o.guard = none) : Region.wanted o y = true := by simp [Region.wanted, h]
theorem wanted_some {o : Oper} {t : Array Value} {j d : Nat} {b : Bool} (h : o.guard = some (j, b)) (hd : (ops[j]?).bind (·.dst) = some d) (hv : t[d]? = some (.bool b)) : Region.wanted o (yielded ops t) = true := by
  simp [Region.wanted, h, yielded, hd, hv]
theorem step_value {o : Oper} {a' : Act} {w1 w2 : World} {v : Value} {K : Act → World → Prop} (hrun : (execOp a'.eval o).run P w1 = .ok (.value v) w2) (hK : K (a'.put o.dst v) w2) : o.wp P a' w1 K Q := by
  unfold Oper.wp
  rw [hrun]
  exact hK
theorem step_call {o : Oper} {a' : Act} {w1 : World} {f : FuncId} {args : Array Value} {K : Act → World → Prop} (hrun : (execOp a'.eval o).run P w1 = .ok (.enter f args) w1)
    (hc : Calls P f args w1 fun e w2 => ∃ v, e = .returned v ∧ K (a'.put o.dst v) w2) : o.wp P a' w1 K Q := by
  unfold Oper.wp
  rw [hrun]
  refine hc.mono ?_
  rintro e w2 ⟨v, rfl, h⟩
  exact h
/-- an operation that is wanted -/
theorem stepOf_wanted {i : Nat} {o : Oper} (hw : ∀ (us : Nat → Value) (w1 : World) (a' : Act), Hid (a' = fills ops.toList 0 us a) → Deps F us w1 (o.after.toList.filter (Region.binds .any)) → Region.wanted o (yielded ops a'.tmps) = true)
    (h : ∀ (us : Nat → Value) (w1 : World) (a' : Act), Hid (a' = fills ops.toList 0 us a) → Grow w w1 → Deps F us w1 (o.after.toList.filter (Region.binds .any)) →
      ∀ K : Act → World → Prop, (∀ v w2, Grow w1 w2 → F i v w2 → K (a'.put o.dst v) w2) → o.wp P a' w1 K Q) : StepOf P ops F a w Q i o := fun us w1 a' ha hg hd => by
  rw [if_pos (hw us w1 a' ha hd)]
  exact h us w1 a' ha hg hd

/-- The law. -/
theorem wp_region_facts {id : Nat} (hm : P.follows .mixedOrders = true) (F : Nat → Value → World → Prop) (hF : ∀ i u w1 w2, Grow w1 w2 → F i u w1 → F i u w2) (hB : regionOk ops = true)
    (hs : StepsOf P ops F a w Q ops.toList 0) (he : ∀ us w1, Grow w w1 → (∀ i, i < ops.size → F i (us i) w1) → Q .normal (fills ops.toList 0 us a) w1) : (Code.region id ops true).wp P Q a w := by
  refine wp_region_any hm ?_
  obtain ⟨us, hus⟩ := fills_self ops.toList 0 a
  have h := wpAny_facts hF hB hs he ops.size (Array.replicate ops.size false) us w.drew (by simp) (fun i hi hl => by simp [Array.getD, hi] at hl) (Grow.drew w) (by
    simp only [Array.toList_replicate]
    exact Nat.le_trans (List.length_filter_le _ _) (by simp))
  rw [hus] at h
  exact h

theorem wpOps_facts (hF : ∀ i u w1 w2, Grow w1 w2 → F i u w1 → F i u w2) (hB : regionOk ops = true) (hs : StepsOf P ops F a w Q ops.toList 0)
    (he : ∀ us w1, Grow w w1 → (∀ i, i < ops.size → F i (us i) w1) → Q .normal (fills ops.toList 0 us a) w1) :
    ∀ (m k : Nat) (us : Nat → Value) (w1 : World), k + m = ops.size → (∀ i, i < k → F i (us i) w1) → Grow w w1 → wpOps P ops Q (List.range' k m) (fills ops.toList 0 us a) w1 := by
  have hdist : distinct ops.toList = true := by simp only [regionOk, Bool.and_eq_true] at hB; exact hB.1
  intro m
  induction m with
  | zero =>
    intro k us w1 hk hl hg
    simp only [List.range'_zero, wpOps]
    exact he us w1 hg fun i hi => hl i (by omega)
  | succ m ih =>
    intro k us w1 hk hl hg
    rw [List.range'_succ, wpOps_cons]
    have hio : k < ops.size := by omega
    obtain ⟨o, ho⟩ : ∃ o, ops[k]? = some o := ⟨_, Array.getElem?_eq_getElem hio⟩
    have hol : ops.toList[k]? = some o := by simpa using ho
    have hstep := hs.get (i := k) hol
    rw [Nat.zero_add] at hstep
    have hon : ∀ e ∈ o.after, e.on < k := fun e he => by
      simp only [regionOk, Bool.and_eq_true] at hB
      have hz := List.all_eq_true.1 hB.2 (o, k) (by rw [List.mem_zipIdx_iff_getElem?]; simpa using ho)
      obtain ⟨j, hj, rfl⟩ := Array.mem_iff_getElem.1 he
      have := (Array.all_eq_true.1 hz) j hj
      simpa using this
    have hdeps : Deps F us w1 (o.after.toList.filter (Region.binds .any)) := Deps.of_all fun e he' => by
      obtain ⟨hm0, _⟩ := List.mem_filter.1 he'
      exact hl e.on (hon e (by simpa using hm0))
    have next : ∀ v w2, Grow w1 w2 → F k v w2 → wpOps P ops Q (List.range' (k + 1) m) ((fills ops.toList 0 us a).put o.dst v) w2 := fun v w2 hg2 hf => by
      have e := fills_set ops.toList 0 k us a o v hdist hol
      rw [Nat.zero_add] at e
      rw [e]
      refine ih (k + 1) _ _ (by omega) (fun i hi => ?_) (hg.trans hg2)
      by_cases hki : i = k
      · subst hki
        simpa [setAt] using hf
      · have e2 : setAt us k v i = us i := by simp [setAt, hki]
        rw [e2]
        exact hF i _ _ _ hg2 (hl i (by omega))
    have hst := hstep us w1 _ (show Hid _ from rfl) hg hdeps
    unfold wpOp
    simp only [ho]
    split
    · rename_i hw
      rw [if_pos hw] at hst
      exact Or.inl (hst _ next)
    · rename_i hw
      rw [if_neg hw] at hst
      exact next undef w1 (Grow.refl _) hst
/-- The law for a region that does not draw. -/
theorem wp_region_plain_facts {id : Nat} (F : Nat → Value → World → Prop) (hF : ∀ i u w1 w2, Grow w1 w2 → F i u w1 → F i u w2) (hB : regionOk ops = true)
    (hs : StepsOf P ops F a w Q ops.toList 0) (he : ∀ us w1, Grow w w1 → (∀ i, i < ops.size → F i (us i) w1) → Q .normal (fills ops.toList 0 us a) w1) : (Code.region id ops false).wp P Q a w := by
  refine wp_region ?_
  obtain ⟨us, hus⟩ := fills_self ops.toList 0 a
  have h := wpOps_facts hF hB hs he ops.size 0 us w (by omega) (fun i hi => by omega) (Grow.refl _)
  rw [hus, ← List.range_eq_range'] at h
  exact h
end
end Go.Proofs.Ytbbjeokecgnfpaa
