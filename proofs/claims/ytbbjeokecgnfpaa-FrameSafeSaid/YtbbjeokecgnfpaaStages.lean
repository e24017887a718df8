/-
  A law for a region that draws its order and in which some operations write (a chain: each waits for the one before): the world is told by how many of the chain have been carried out; all else leaves facts. Whatever order is drawn, at the end the chain is through and all facts hold. Outside a round and within one. No program is in sight.
-/
import Derived.OrdersIn
import Derived.OwnWalkIn
import Derived.RangeFuncCalls
import Derived.Test.YtbbjeokecgnfpaaFacts
namespace Go.Proofs.Ytbbjeokecgnfpaa
open Go.RowKit

/-- all that an operation waits for, directly or through others -/
def reach (ops : Array Oper) : Nat → Nat → List Nat
  | 0, _ => []
  | f + 1, i => match ops[i]? with
    | none => []
    | some o => (o.after.toList.filter (Region.binds .any)).flatMap fun e => e.on :: reach ops f e.on

section
variable {P : Program} {ops : Array Oper} {Q : Exit → Act → World → Prop}
/-- operation number i comes up -/
def opAt (P : Program) (ops : Array Oper) (Q : Exit → Act → World → Prop) (i : Nat) (K : Act → World → Prop) (a : Act) (w : World) : Prop :=
  match ops[i]? with
  | none => K a w
  | some o => if Region.wanted o (yielded ops a.tmps) then o.wp P a w K Q else K (a.put o.dst undef) w
def anyOrder (P : Program) (ops : Array Oper) (Q : Exit → Act → World → Prop) : Nat → Array Bool → Act → World → Prop
  | 0, listed, a, w => Region.ready .any ops listed = [] ∧ Q .normal a w
  | fuel + 1, listed, a, w => (Region.ready .any ops listed = [] → Q .normal a w) ∧ ∀ i ∈ Region.ready .any ops listed, opAt P ops Q i (anyOrder P ops Q fuel (listed.setIfInBounds i true)) a w
theorem anyOrder.wp : ∀ {fuel : Nat} {listed : Array Bool} {a : Act} {w : World}, anyOrder P ops Q fuel listed a w → wpAny P .any ops Q fuel listed a w
  | 0, _, _, _, h => h
  | fuel + 1, _, _, _, h => ⟨h.1, fun i hi => by
    have := h.2 i hi
    unfold opAt at this
    unfold wpOp
    split
    · rename_i ho
      simp only [ho] at this
      exact anyOrder.wp this
    · rename_i o ho
      simp only [ho] at this
      split
      · rename_i hw
        rw [if_pos hw] at this
        exact Or.inl (Oper.wp_mono (fun _ _ h => anyOrder.wp h) this)
      · rename_i hw
        rw [if_neg hw] at this
        exact anyOrder.wp this⟩
theorem wpIn_of_wp {l n : Nat} {o : Oper} {a : Act} {w : World} {K : Act → World → Prop} (hnd : ∀ c, o.op ≠ .defer c) (h : o.wp P a w K Q) : o.wpIn (Fence.wide.inRound l) n P a w K Q := by
  refine ⟨fun _ _ => trivial, ?_⟩
  rw [Oper.semAt_plain _ _ _ hnd]
  unfold Oper.wp at h
  generalize (execOp a.eval o).run P w = r at *
  cases r with
  | ok x w' =>
    cases x <;> simp only [Oper.upon, Oper.uponIn] at h ⊢
    case value => exact h
    case skip => exact h
    case defer => exact h
    case enter f args => exact ⟨(fun hd => by cases hd), CallsIn.inRound l (callsIn_wide.2 h)⟩
    case row row args => exact ⟨(fun hd => by cases hd), fun c cs _ => let ⟨v, w', r, s⟩ := h c cs; ⟨v, w', r, stepsIn_wide.2 s⟩⟩
  | halt x w' => cases x <;> simp only [Oper.upon, Oper.uponIn] at h ⊢ <;> exact h
/-- no operation defers -/
def noDefer (ops : Array Oper) : Bool := ops.toList.all fun o => match o.op with
  | .defer _ => false
  | _ => true
theorem noDefer_get (h : noDefer ops = true) {i : Nat} {o : Oper} (ho : ops[i]? = some o) : ∀ c, o.op ≠ .defer c := fun c hc => by
  have := List.all_eq_true.1 h o (by simpa using Array.mem_of_getElem? ho)
  simp [hc] at this
theorem anyOrder.wpIn (hnd : noDefer ops = true) {l n : Nat} : ∀ {fuel : Nat} {listed : Array Bool} {a : Act} {w : World}, anyOrder P ops Q fuel listed a w → wpAnyIn (Fence.wide.inRound l) n P .any ops Q fuel listed a w
  | 0, _, _, _, h => h
  | fuel + 1, _, _, _, h => ⟨h.1, fun i hi => by
    have := h.2 i hi
    unfold opAt at this
    unfold wpOpIn
    split
    · rename_i ho
      simp only [ho] at this
      exact anyOrder.wpIn hnd this
    · rename_i o ho
      simp only [ho] at this
      split
      · rename_i hw
        rw [if_pos hw] at this
        exact wpIn_of_wp (noDefer_get hnd ho) (Oper.wp_mono (fun _ _ h => anyOrder.wpIn hnd h) this)
      · rename_i hw
        rw [if_neg hw] at this
        exact ⟨fun _ _ => trivial, anyOrder.wpIn hnd this⟩⟩
end

section
variable (P : Program) (ops : Array Oper) (ms : List Nat) (le : World → World → Prop) (W : List Value → World → Prop) (F : Nat → Value → World → Prop) (bnd : Nat → Nat) (a : Act) (w : World) (Q : Exit → Act → World → Prop)
/-- what an operation waits for: a fact, or the value that the chain has noted -/
def DepsM (us : Nat → Value) (vals : List Value) (w : World) : List Edge → Prop
  | [] => True
  | e :: r => (match ms.idxOf? e.on with
    | some t => vals[t]? = some (us e.on)
    | none => F e.on (us e.on) w) ∧ DepsM us vals w r
/-- what is asked of operation number i -/
def StageOf (i : Nat) (o : Oper) : Prop := ∀ (us : Nat → Value) (vals : List Value) (w1 : World) (a' : Act), Hid (a' = fills ops.toList 0 us a) → le w w1 → W vals w1 → DepsM ms F us vals w1 (o.after.toList.filter (Region.binds .any)) →
  match ms.idxOf? i with
  | some t => vals.length = t → Region.wanted o (yielded ops a'.tmps) = true ∧ ∀ K : Act → World → Prop, (∀ v w2, le w1 w2 → W (vals ++ [v]) w2 → K (a'.put o.dst v) w2) → o.wp P a' w1 K Q
  | none => vals.length ≤ bnd i → if Region.wanted o (yielded ops a'.tmps) then ∀ K : Act → World → Prop, (∀ v w2, Grow w1 w2 → F i v w2 → K (a'.put o.dst v) w2) → o.wp P a' w1 K Q else F i undef w1
def StagesOf : List Oper → Nat → Prop
  | [], _ => True
  | o :: r, i => StageOf P ops ms le W F bnd a w Q i o ∧ StagesOf r (i + 1)
end
/-- the chain is one; what is said to come up early does -/
def chainOk (ops : Array Oper) (ms : List Nat) (bnd : Nat → Nat) : Bool :=
  ms.all (fun i => decide (i < ops.size)) && ((List.range ms.length).all fun t => decide (t = 0) || (reach ops ops.size (ms.getD t 0)).contains (ms.getD (t - 1) 0)) &&
  ((List.range ops.size).all fun i => decide (ms.length ≤ bnd i) || (reach ops ops.size (ms.getD (bnd i) 0)).contains i) && decide (ms.Nodup)

section
variable {P : Program} {ops : Array Oper} {ms : List Nat} {le : World → World → Prop} {W : List Value → World → Prop} {F : Nat → Value → World → Prop} {bnd : Nat → Nat} {a : Act} {w : World} {Q : Exit → Act → World → Prop}
theorem StagesOf.get : ∀ {l : List Oper} {k i : Nat} {o : Oper}, StagesOf P ops ms le W F bnd a w Q l k → l[i]? = some o → StageOf P ops ms le W F bnd a w Q (k + i) o
  | [], _, _, _, _, h => by simp at h
  | o' :: r, k, 0, o, hs, h => by
    obtain rfl : o' = o := by simpa using h
    exact hs.1
  | o' :: r, k, i + 1, o, hs, h => by
    have := StagesOf.get (i := i) hs.2 (by simpa using h)
    rwa [show k + 1 + i = k + (i + 1) by omega] at this
theorem DepsM.of_all {us : Nat → Value} {vals : List Value} {w : World} : ∀ {l : List Edge}, (∀ e ∈ l, match ms.idxOf? e.on with | some t => vals[t]? = some (us e.on) | none => F e.on (us e.on) w) → DepsM ms F us vals w l
  | [], _ => trivial
  | e :: _, h => ⟨h e (by simp), DepsM.of_all fun e' he => h e' (by simp [he])⟩
/-- what has been carried out is closed under what it waited for -/
def Closed (ops : Array Oper) (listed : Array Bool) : Prop := ∀ i o, ops[i]? = some o → listed.getD i false = true → ∀ e ∈ o.after, Region.binds .any e = true → listed.getD e.on false = true
theorem Closed.reach {listed : Array Bool} (h : Closed ops listed) : ∀ (f i : Nat), listed.getD i false = true → ∀ j ∈ reach ops f i, listed.getD j false = true
  | 0, _, _, j, hj => by simp [Proofs.Ytbbjeokecgnfpaa.reach] at hj
  | f + 1, i, hi, j, hj => by
    unfold Proofs.Ytbbjeokecgnfpaa.reach at hj
    cases ho : ops[i]? with
    | none => rw [ho] at hj; simp at hj
    | some o =>
      rw [ho] at hj
      simp only [List.mem_flatMap, List.mem_filter, List.mem_cons] at hj
      obtain ⟨e, ⟨he, hb⟩, hj⟩ := hj
      have h1 := h i o ho hi e (by simpa using he) hb
      rcases hj with rfl | hj
      · exact h1
      · exact Closed.reach h f e.on h1 j hj

/-- how it stands when listed have been carried out -/
structure At (ms : List Nat) (ops : Array Oper) (le : World → World → Prop) (W : List Value → World → Prop) (F : Nat → Value → World → Prop) (w : World) (listed : Array Bool) (us : Nat → Value) (vals : List Value) (w1 : World) : Prop where
  size : listed.size = ops.size
  closed : Closed ops listed
  to : le w w1
  world : W vals w1
  chain : ∀ t, t < ms.length → (listed.getD (ms.getD t 0) false = true ↔ t < vals.length)
  told : ∀ t, t < vals.length → vals[t]? = some (us (ms.getD t 0))
  len : vals.length ≤ ms.length
  facts : ∀ i, i < ops.size → listed.getD i false = true → ms.idxOf? i = none → F i (us i) w1

theorem idxOf_get {i t : Nat} (h : ms.idxOf? i = some t) : t < ms.length ∧ ms.getD t 0 = i := by
  rw [List.idxOf?_eq_some_iff] at h
  obtain ⟨h1, h2, _⟩ := h
  refine ⟨h1, ?_⟩
  rw [List.getD_eq_getElem?_getD, List.getElem?_eq_getElem h1]
  simpa using h2

theorem anyOrder_stages (hle : ∀ x y z, le x y → le y z → le x z) (hgl : ∀ x y, Grow x y → le x y) (hW : ∀ vals x y, Grow x y → W vals x → W vals y) (hF : ∀ i u x y, le x y → F i u x → F i u y)
    (hB : regionOk ops = true) (hC : chainOk ops ms bnd = true) (hs : StagesOf P ops ms le W F bnd a w Q ops.toList 0)
    (he : ∀ us vals w1, le w w1 → vals.length = ms.length → W vals w1 → (∀ t, t < vals.length → vals[t]? = some (us (ms.getD t 0))) → (∀ i, i < ops.size → ms.idxOf? i = none → F i (us i) w1) → Q .normal (fills ops.toList 0 us a) w1) :
    ∀ (fuel : Nat) (listed : Array Bool) (us : Nat → Value) (vals : List Value) (w1 : World), At ms ops le W F w listed us vals w1 → (listed.toList.filter (fun b => !b)).length ≤ fuel → anyOrder P ops Q fuel listed (fills ops.toList 0 us a) w1 := by
  simp only [chainOk, Bool.and_eq_true] at hC
  obtain ⟨⟨⟨hc1, hc2⟩, hc3⟩, hc4⟩ := hC
  have hnd : ms.Nodup := by simpa using hc4
  have hmlt : ∀ t, t < ms.length → ms.getD t 0 < ops.size := fun t ht => by
    rw [List.getD_eq_getElem?_getD, List.getElem?_eq_getElem ht]
    have := List.all_eq_true.1 hc1 ms[t] (List.getElem_mem ht)
    simpa using this
  intro fuel
  have hdist : distinct ops.toList = true := by simp only [regionOk, Bool.and_eq_true] at hB; exact hB.1
  have fin : ∀ (listed : Array Bool) (us : Nat → Value) (vals : List Value) (w1 : World), At ms ops le W F w listed us vals w1 → Region.ready .any ops listed = [] → Q .normal (fills ops.toList 0 us a) w1 := fun listed us vals w1 hA hr => by
    have hall := ready_nil hB hA.size hr
    have hlen : vals.length = ms.length := by
      rcases Nat.lt_or_ge vals.length ms.length with h1 | h1
      · have := (hA.chain _ h1).1 (hall _ (hmlt _ h1))
        omega
      · have := hA.len
        omega
    exact he us vals w1 hA.to hlen hA.world hA.told fun i hi hm => hA.facts i hi (hall i hi) hm
  have count : ∀ (l : List Bool) (i : Nat), l[i]? = some false → ((l.set i true).filter (fun b => !b)).length + 1 = (l.filter (fun b => !b)).length := by
    intro l
    induction l with
    | nil => intro i h; simp at h
    | cons b r ih =>
      intro i h
      cases i with
      | zero =>
        obtain rfl : b = false := by simpa using h
        simp
      | succ i =>
        have := ih i (by simpa using h)
        rw [List.set_cons_succ, List.filter_cons, List.filter_cons]
        split <;> simp_all
  have unl : ∀ (listed : Array Bool) (i : Nat), listed.size = ops.size → i < ops.size → listed.getD i true = false → listed.toList[i]? = some false ∧ listed.getD i false = false := fun listed i hsz hi hl => by
    have hi2 : i < listed.size := by omega
    have : listed.getD i true = listed[i] := by simp [Array.getD, hi2]
    rw [this] at hl
    simp [hi2, hl, Array.getD]
  induction fuel with
  | zero =>
    intro listed us vals w1 hA hc
    have hr : Region.ready .any ops listed = [] := by
      cases hr : Region.ready .any ops listed with
      | nil => rfl
      | cons i r =>
        exfalso
        obtain ⟨o, ho, hli, _⟩ := ready_mem (show i ∈ Region.ready .any ops listed by rw [hr]; simp)
        have := count _ _ (unl listed i hA.size (Array.getElem?_eq_some_iff.1 ho).1 hli).1
        omega
    exact ⟨hr, fin listed us vals w1 hA hr⟩
  | succ fuel ih =>
    intro listed us vals w1 hA hc
    refine ⟨fin listed us vals w1 hA, fun i hi => ?_⟩
    obtain ⟨o, ho, hli, hdep⟩ := ready_mem hi
    have hio : i < ops.size := (Array.getElem?_eq_some_iff.1 ho).1
    have hi2 : i < listed.size := by rw [hA.size]; exact hio
    have hol : ops.toList[i]? = some o := by simpa using ho
    obtain ⟨h1, hlf⟩ := unl listed i hA.size hio hli
    have hcount := count _ _ h1
    have hstep := hs.get (i := i) hol
    rw [Nat.zero_add] at hstep
    have hon : ∀ e ∈ o.after, e.on < i := fun e he => by
      simp only [regionOk, Bool.and_eq_true] at hB
      have hz := List.all_eq_true.1 hB.2 (o, i) (by rw [List.mem_zipIdx_iff_getElem?]; simpa using ho)
      obtain ⟨j, hj, rfl⟩ := Array.mem_iff_getElem.1 he
      have := (Array.all_eq_true.1 hz) j hj
      simpa using this
    have hdeps : DepsM ms F us vals w1 (o.after.toList.filter (Region.binds .any)) := DepsM.of_all fun e he' => by
      obtain ⟨hm0, hb⟩ := List.mem_filter.1 he'
      have hm : e ∈ o.after := by simpa using hm0
      have hl := hdep e hm hb
      cases hx : ms.idxOf? e.on with
      | none => exact hA.facts e.on (by have := hon e hm; omega) hl hx
      | some t =>
        obtain ⟨ht, hg⟩ := idxOf_get hx
        have := (hA.chain t ht).1 (by rw [hg]; exact hl)
        show vals[t]? = some (us e.on)
        rw [hA.told t this, hg]
    -- the set once i is listed
    have hget : ∀ k, (listed.setIfInBounds i true).getD k false = if k = i then true else listed.getD k false := fun k => by
      by_cases hk : k = i
      · subst hk
        simp [Array.getD, hi2]
      · rw [if_neg hk, Array.getD_eq_getD_getElem?, Array.getElem?_setIfInBounds_ne (Ne.symm hk), ← Array.getD_eq_getD_getElem?]
    have hclosed : Closed ops (listed.setIfInBounds i true) := fun k o' ho' hk e he' hb => by
      rw [hget] at hk ⊢
      by_cases hki : k = i
      · subst hki
        rw [ho] at ho'
        cases ho'
        have := hdep e he' hb
        split
        · rfl
        · exact this
      · rw [if_neg hki] at hk
        have := hA.closed k o' ho' hk e he' hb
        split
        · rfl
        · exact this
    have hcnt2 : ((listed.setIfInBounds i true).toList.filter (fun b => !b)).length ≤ fuel := by
      have : (listed.setIfInBounds i true).toList = listed.toList.set i true := by simp
      rw [this]
      omega
    have hst := hstep us vals w1 _ (show Hid _ from rfl) hA.to hA.world hdeps
    unfold opAt
    simp only [ho]
    cases hx : ms.idxOf? i with
    | some t =>
      obtain ⟨ht, hg⟩ := idxOf_get hx
      rw [hx] at hst
      have hvt : vals.length = t := by
        have h2 : ¬ t < vals.length := fun h => by
          have := (hA.chain t ht).2 h
          rw [hg, hlf] at this
          cases this
        rcases Nat.eq_zero_or_pos t with h0 | h0
        · omega
        · have h3 := List.all_eq_true.1 hc2 t (List.mem_range.2 ht)
          have h4 : (reach ops ops.size (ms.getD t 0)).contains (ms.getD (t - 1) 0) = true := by
            rcases Bool.or_eq_true _ _ ▸ h3 with h | h
            · simp at h; omega
            · exact h
          have h5 : (listed.setIfInBounds i true).getD (ms.getD (t - 1) 0) false = true := hclosed.reach ops.size i (by rw [hget, if_pos rfl]) _ (by rw [← hg]; simpa using h4)
          have h6 : ms.getD (t - 1) 0 ≠ i := by
            rw [← hg]
            intro e
            rw [List.getD_eq_getElem?_getD, List.getD_eq_getElem?_getD, List.getElem?_eq_getElem (show t - 1 < ms.length by omega), List.getElem?_eq_getElem ht] at e
            have := (List.getElem_inj hnd).1 (by simpa using e)
            omega
          rw [hget, if_neg h6] at h5
          have := (hA.chain (t - 1) (by omega)).1 h5
          omega
      obtain ⟨hw, hK⟩ := hst hvt
      rw [if_pos hw]
      refine hK _ fun v w2 hl2 hW2 => ?_
      have e := fills_set ops.toList 0 i us a o v hdist hol
      rw [Nat.zero_add] at e
      rw [e]
      refine ih _ _ (vals ++ [v]) _ ⟨by simpa using hA.size, hclosed, hle _ _ _ hA.to hl2, hW2, fun t' ht' => ?_, fun t' ht' => ?_, by simp; omega, fun k hk hlk hmk => ?_⟩ hcnt2
      · rw [hget]
        by_cases hti : t' = t
        · subst hti
          rw [if_pos hg]
          simp; omega
        · have h6 : ms.getD t' 0 ≠ i := by
            rw [← hg]
            intro e
            rw [List.getD_eq_getElem?_getD, List.getD_eq_getElem?_getD, List.getElem?_eq_getElem ht', List.getElem?_eq_getElem ht] at e
            exact hti ((List.getElem_inj hnd).1 (by simpa using e))
          rw [if_neg h6, hA.chain t' ht']
          simp; omega
      · by_cases hti : t' = t
        · subst hti
          rw [← hvt, List.getElem?_append_right (Nat.le_refl _), Nat.sub_self, hvt, hg]
          simp [setAt]
        · have ht2 : t' < vals.length := by simp at ht'; omega
          rw [List.getElem?_append_left ht2, hA.told t' ht2]
          have h6 : ms.getD t' 0 ≠ i := by
            rw [← hg]
            intro e
            rw [List.getD_eq_getElem?_getD, List.getD_eq_getElem?_getD, List.getElem?_eq_getElem (show t' < ms.length by omega), List.getElem?_eq_getElem ht] at e
            exact hti ((List.getElem_inj hnd).1 (by simpa using e))
          simp only [setAt, if_neg h6]
      · have hki : k ≠ i := fun e => by rw [e, hx] at hmk; cases hmk
        rw [hget, if_neg hki] at hlk
        have e2 : setAt us i v k = us k := by simp [setAt, hki]
        rw [e2]
        exact hF k _ _ _ hl2 (hA.facts k hk hlk hmk)
    | none =>
      rw [hx] at hst
      have hb : vals.length ≤ bnd i := by
        have h3 := List.all_eq_true.1 hc3 i (List.mem_range.2 hio)
        rcases Bool.or_eq_true _ _ ▸ h3 with h | h
        · have := hA.len
          have h4 : ms.length ≤ bnd i := by simpa using h
          omega
        · rcases Nat.lt_or_ge (bnd i) vals.length with h5 | h5
          · exfalso
            have h6 := (hA.chain (bnd i) (by have := hA.len; omega)).2 h5
            have h7 := hA.closed.reach ops.size _ h6 i (by simpa using h)
            rw [hlf] at h7
            cases h7
          · exact h5
      have next : ∀ v w2, Grow w1 w2 → F i v w2 → anyOrder P ops Q fuel (listed.setIfInBounds i true) ((fills ops.toList 0 us a).put o.dst v) w2 := fun v w2 hg2 hf => by
        have e := fills_set ops.toList 0 i us a o v hdist hol
        rw [Nat.zero_add] at e
        rw [e]
        have hmi : ∀ t', t' < ms.length → ms.getD t' 0 ≠ i := fun t' ht' e => by
          have : i ∈ ms := by
            rw [← e, List.getD_eq_getElem?_getD, List.getElem?_eq_getElem ht']
            exact List.getElem_mem ht'
          rw [List.idxOf?_eq_none_iff] at hx
          exact hx this
        refine ih _ _ vals _ ⟨by simpa using hA.size, hclosed, hle _ _ _ hA.to (hgl _ _ hg2), hW _ _ _ hg2 hA.world, fun t' ht' => ?_, fun t' ht' => ?_, hA.len, fun k hk hlk hmk => ?_⟩ hcnt2
        · rw [hget, if_neg (hmi t' ht')]
          exact hA.chain t' ht'
        · rw [hA.told t' ht']
          simp only [setAt, if_neg (hmi t' (by have := hA.len; omega))]
        · rw [hget] at hlk
          by_cases hki : k = i
          · subst hki
            simpa [setAt] using hf
          · rw [if_neg hki] at hlk
            have e2 : setAt us i v k = us k := by simp [setAt, hki]
            rw [e2]
            exact hF k _ _ _ (hgl _ _ hg2) (hA.facts k hk hlk hmk)
      have hst := hst hb
      split
      · rename_i hw
        rw [if_pos hw] at hst
        exact hst _ next
      · rename_i hw
        rw [if_neg hw] at hst
        exact next undef w1 (Grow.refl _) hst

/-- from the start -/
theorem anyOrder_start (ms : List Nat) (le : World → World → Prop) (W : List Value → World → Prop) (F : Nat → Value → World → Prop) (bnd : Nat → Nat)
    (hle : ∀ x y z, le x y → le y z → le x z) (hgl : ∀ x y, Grow x y → le x y) (hW : ∀ vals x y, Grow x y → W vals x → W vals y) (hF : ∀ i u x y, le x y → F i u x → F i u y)
    (hB : regionOk ops = true) (hC : chainOk ops ms bnd = true) (h0 : W [] w) (hs : StagesOf P ops ms le W F bnd a w Q ops.toList 0)
    (he : ∀ us vals w1, le w w1 → vals.length = ms.length → W vals w1 → (∀ t, t < vals.length → vals[t]? = some (us (ms.getD t 0))) → (∀ i, i < ops.size → ms.idxOf? i = none → F i (us i) w1) → Q .normal (fills ops.toList 0 us a) w1) :
    anyOrder P ops Q ops.size (Array.replicate ops.size false) a w.drew := by
  obtain ⟨us, hus⟩ := fills_self ops.toList 0 a
  have hf : ∀ i, (Array.replicate ops.size false).getD i false = false := fun i => by
    by_cases hi : i < ops.size
    · simp [Array.getD, hi]
    · simp [Array.getD, hi]
  have h := anyOrder_stages hle hgl hW hF hB hC hs he ops.size (Array.replicate ops.size false) us [] w.drew ⟨by simp, (fun i o _ hl => by rw [hf] at hl; cases hl), hgl _ _ (Grow.drew w), hW _ _ _ (Grow.drew w) h0,
    (fun t _ => by rw [hf]; simp), (fun t ht => by simp at ht), Nat.zero_le _, (fun i _ hl => by rw [hf] at hl; cases hl)⟩ (by
    simp only [Array.toList_replicate]
    exact Nat.le_trans (List.length_filter_le _ _) (by simp))
  rw [hus] at h
  exact h
/-- The law, outside a round. -/
theorem wp_region_stages {id : Nat} (hm : P.follows .mixedOrders = true) (h : anyOrder P ops Q ops.size (Array.replicate ops.size false) a w.drew) : (Code.region id ops true).wp P Q a w := wp_region_any hm h.wp
/-- The law, within a round. -/
theorem wpIn_region_stages {id l n : Nat} (hm : P.follows .mixedOrders = true) (hnd : noDefer ops = true) (h : anyOrder P ops Q ops.size (Array.replicate ops.size false) a w.drew) : (Code.region id ops true).wpIn (Fence.wide.inRound l) n P Q a w :=
  wpIn_region_any hm (h.wpIn hnd)
end
end Go.Proofs.Ytbbjeokecgnfpaa
