/-
  A region that draws its order and whose last operation waits for all others (an assignment): the law of XStages for all but the last, then the last. So a slot may be read early and assigned last. No program is in sight.
-/
import Derived.Test.YtbbjeokecgnfpaaGreatBaseC
namespace Go.Proofs.YtbbjeokecgnfpaaGreat
open Go.RowKit

theorem wp_exits {P : Program} {o : Oper} {a : Act} {w : World} {K : Act → World → Prop} {Q Q' : Exit → Act → World → Prop} (h : ∀ x a w, x ≠ .normal → Q x a w → Q' x a w) (hh : o.wp P a w K Q) : o.wp P a w K Q' := by
  have hl : LetsOut Q → LetsOut Q' := fun ⟨a, w, q⟩ => ⟨a, w, h _ _ _ (by simp) q⟩
  unfold Oper.wp at *
  generalize (execOp a.eval o).run P w = r at *
  cases r with
  | ok n w' =>
    cases n <;> simp only [Oper.upon] at hh ⊢ <;>
      first
        | exact hh
        | exact Calls.mono hh (fun e w'' he => by
            cases e
            · exact he
            · exact h _ _ _ (by simp) he
            · exact hl he)
  | halt x w' => cases x <;> simp only [Oper.upon] at hh ⊢ <;> first | exact h _ _ _ (by simp) hh | exact hh

/-- behind all but the last operation, the last one -/
def lastQ (P : Program) (o : Oper) (Q : Exit → Act → World → Prop) : Exit → Act → World → Prop := fun x a w => (x = .normal ∧ o.wp P a w (Q .normal) Q) ∨ (x ≠ .normal ∧ Q x a w)
def lastOk (pre : Array Oper) (o : Oper) : Bool :=
  regionOk pre && pre.toList.all (fun p => match p.guard with
    | none => true
    | some (j, _) => decide (j < pre.size)) && o.guard.isNone && (List.range pre.size).all (fun j => o.after.toList.any fun e => Region.binds .any e && e.on == j) && o.after.toList.all (fun e => decide (e.on < pre.size))

section
variable {P : Program} {pre : Array Oper} {o : Oper} {Q : Exit → Act → World → Prop}
theorem ready_iff {ops : Array Oper} {listed : Array Bool} {i : Nat} : i ∈ Region.ready .any ops listed ↔ ∃ o, ops[i]? = some o ∧ listed.getD i true = false ∧ ∀ e ∈ o.after, Region.binds .any e = true → listed.getD e.on false = true := by
  refine ⟨ready_mem, fun ⟨o, ho, h2, h3⟩ => ?_⟩
  have hi := (Array.getElem?_eq_some_iff.1 ho).1
  have he := (Array.getElem?_eq_some_iff.1 ho).2
  simp only [Region.ready, List.mem_filter, List.mem_range, Bool.and_eq_true, Bool.not_eq_true']
  refine ⟨hi, h2, ?_⟩
  simp only [hi, getElem?_pos, Option.map_some, Option.getD_some]
  rw [Array.all_eq_true]
  intro j hj
  have h4 : ops[i].after[j] ∈ o.after := by rw [← he]; exact Array.getElem_mem hj
  cases hb : Region.binds .any ops[i].after[j] with
  | false => simp
  | true =>
    have := h3 _ h4 hb
    simpa using this
theorem getD_push (listed : Array Bool) (d : Bool) (j : Nat) (hj : j < listed.size) : (listed.push false).getD j d = listed.getD j d := by
  simp [Array.getD, hj, Nat.lt_succ_of_lt hj, Array.getElem_push_lt]
theorem anyOrder_last (hok : lastOk pre o = true) : ∀ (fuel : Nat) (listed : Array Bool) (a : Act) (w : World), listed.size = pre.size → anyOrder P pre (lastQ P o Q) fuel listed a w → anyOrder P (pre.push o) Q (fuel + 1) (listed.push false) a w := by
  simp only [lastOk, Bool.and_eq_true] at hok
  obtain ⟨⟨⟨⟨hB, hG⟩, hN⟩, hA⟩, hE⟩ := hok
  have hgd : o.guard = none := by simpa using hN
  have hbefore : ∀ (i : Nat) (o' : Oper), pre[i]? = some o' → ∀ e ∈ o'.after, e.on < pre.size := fun i o' ho e he => by
    simp only [regionOk, Bool.and_eq_true] at hB
    have hi := (Array.getElem?_eq_some_iff.1 ho).1
    have hz := List.all_eq_true.1 hB.2 (o', i) (by rw [List.mem_zipIdx_iff_getElem?]; simpa using ho)
    obtain ⟨j, hj, rfl⟩ := Array.mem_iff_getElem.1 he
    have := (Array.all_eq_true.1 hz) j hj
    simp only [decide_eq_true_eq] at this
    omega
  have hone : ∀ e ∈ o.after, e.on < pre.size := fun e he => by
    have := List.all_eq_true.1 hE e (by simpa using he)
    simpa using this
  have hall : ∀ j, j < pre.size → ∃ e ∈ o.after, Region.binds .any e = true ∧ e.on = j := fun j hj => by
    have := List.all_eq_true.1 hA j (List.mem_range.2 hj)
    obtain ⟨e, he, h2⟩ := List.any_eq_true.1 this
    simp only [Bool.and_eq_true, beq_iff_eq] at h2
    exact ⟨e, by simpa using he, h2.1, h2.2⟩
  have hlow : ∀ (listed : Array Bool) (i : Nat), listed.size = pre.size → i < pre.size → (i ∈ Region.ready .any (pre.push o) (listed.push false) ↔ i ∈ Region.ready .any pre listed) := fun listed i hs hi => by
    rw [ready_iff, ready_iff]
    have e1 : (pre.push o)[i]? = pre[i]? := by rw [Array.getElem?_push, if_neg (by omega)]
    rw [e1, getD_push _ _ _ (by omega)]
    constructor
    · rintro ⟨o', h1, h2, h3⟩
      exact ⟨o', h1, h2, fun e he hb => by have := h3 e he hb; rwa [getD_push _ _ _ (by have := hbefore i o' h1 e he; omega)] at this⟩
    · rintro ⟨o', h1, h2, h3⟩
      exact ⟨o', h1, h2, fun e he hb => by rw [getD_push _ _ _ (by have := hbefore i o' h1 e he; omega)]; exact h3 e he hb⟩
  have htop : ∀ (listed : Array Bool), listed.size = pre.size → (pre.size ∈ Region.ready .any (pre.push o) (listed.push false) ↔ ∀ j, j < pre.size → listed.getD j false = true) := fun listed hs => by
    rw [ready_iff]
    have e1 : (pre.push o)[pre.size]? = some o := by simp
    have e2 : (listed.push false).getD pre.size true = false := by simp [← hs, Array.getD]
    constructor
    · rintro ⟨o', h1, h2, h3⟩ j hj
      rw [e1] at h1
      cases h1
      obtain ⟨e, he, hb, rfl⟩ := hall j hj
      have := h3 e he hb
      rwa [getD_push _ _ _ (by omega)] at this
    · intro h
      exact ⟨o, e1, e2, fun e he hb => by rw [getD_push _ _ _ (by have := hone e he; omega)]; exact h _ (hone e he)⟩
  have hnone : ∀ (listed : Array Bool), (∀ j, j < pre.size + 1 → listed.getD j true = true) → Region.ready .any (pre.push o) listed = [] := fun listed h => by
    cases hr : Region.ready .any (pre.push o) listed with
    | nil => rfl
    | cons i r =>
      exfalso
      obtain ⟨o', ho, hl, _⟩ := ready_iff.1 (show i ∈ Region.ready .any (pre.push o) listed by rw [hr]; simp)
      have hi := (Array.getElem?_eq_some_iff.1 ho).1
      have := h i (by simpa using hi)
      rw [hl] at this
      cases this
  have hdone : ∀ (listed : Array Bool), listed.size = pre.size → Region.ready .any pre listed = [] → ∀ j, j < pre.size + 1 → ((listed.push false).setIfInBounds pre.size true).getD j true = true := fun listed hs hr j hj => by
    have hl := ready_nil hB hs hr
    by_cases h : j = pre.size
    · subst h
      simp [Array.getD, ← hs]
    · have h1 := hl j (by omega)
      rw [Array.getD_eq_getD_getElem?, Array.getElem?_setIfInBounds_ne (Ne.symm h), ← Array.getD_eq_getD_getElem?, getD_push _ _ _ (by omega)]
      have h2 : j < listed.size := by omega
      simpa [Array.getD, h2] using h1
  have hfin : ∀ (fuel : Nat) (listed : Array Bool) (a : Act) (w : World), listed.size = pre.size → Region.ready .any pre listed = [] → lastQ P o Q .normal a w → anyOrder P (pre.push o) Q (fuel + 1) (listed.push false) a w := fun fuel listed a w hs hr hq => by
    have hl := ready_nil hB hs hr
    have hmem := (htop listed hs).2 hl
    refine ⟨fun h => by rw [h] at hmem; simp at hmem, fun i hi => ?_⟩
    have hil : i = pre.size := by
      obtain ⟨o', ho, _⟩ := ready_iff.1 hi
      have h1 := (Array.getElem?_eq_some_iff.1 ho).1
      rcases Nat.lt_or_ge i pre.size with h | h
      · have := (hlow listed i hs h).1 hi
        rw [hr] at this
        simp at this
      · simp at h1; omega
    subst hil
    unfold opAt
    have e1 : (pre.push o)[pre.size]? = some o := by simp
    simp only [e1]
    rw [if_pos (wanted_none hgd)]
    rcases hq with ⟨_, hq⟩ | ⟨hq, _⟩
    · refine Oper.wp_mono (fun a' w' h => ?_) hq
      have hn := hnone _ (hdone listed hs hr)
      cases fuel with
      | zero => exact ⟨hn, h⟩
      | succ fuel => exact ⟨fun _ => h, fun i hi => by rw [hn] at hi; simp at hi⟩
    · exact absurd rfl hq
  intro fuel
  induction fuel with
  | zero => intro listed a w hs h; exact hfin 0 listed a w hs h.1 h.2
  | succ fuel ih =>
    intro listed a w hs h
    cases hr : Region.ready .any pre listed with
    | nil => exact hfin _ listed a w hs hr (h.1 hr)
    | cons i0 r0 =>
      have hi0 : i0 ∈ Region.ready .any pre listed := by rw [hr]; simp
      obtain ⟨o0, ho0, hl0, _⟩ := ready_iff.1 hi0
      have hlt0 := (Array.getElem?_eq_some_iff.1 ho0).1
      refine ⟨fun he => ?_, fun i hi => ?_⟩
      · have := (hlow listed i0 hs hlt0).2 hi0
        rw [he] at this
        simp at this
      · have hilt : i < pre.size := by
          obtain ⟨o', ho, _⟩ := ready_iff.1 hi
          have h1 := (Array.getElem?_eq_some_iff.1 ho).1
          rcases Nat.lt_or_ge i pre.size with h2 | h2
          · exact h2
          · exfalso
            have h3 : i = pre.size := by simp at h1; omega
            subst h3
            have h4 := (htop listed hs).1 hi i0 hlt0
            have h5 : i0 < listed.size := by omega
            have h6 : listed.getD i0 true = listed.getD i0 false := by simp [Array.getD, h5]
            rw [h6, h4] at hl0
            cases hl0
        have h1 := h.2 i ((hlow listed i hs hilt).1 hi)
        have e1 : (pre.push o)[i]? = pre[i]? := by rw [Array.getElem?_push, if_neg (by omega)]
        have e2 : (listed.push false).setIfInBounds i true = (listed.setIfInBounds i true).push false := by
          apply Array.ext_getElem?
          intro j
          simp only [Array.getElem?_setIfInBounds, Array.getElem?_push, Array.size_push, Array.size_setIfInBounds]
          split <;> split <;> (try split) <;> (try split) <;> simp_all <;> omega
        have e3 : ∀ o' : Oper, pre[i]? = some o' → Region.wanted o' (yielded (pre.push o) a.tmps) = Region.wanted o' (yielded pre a.tmps) := fun o' ho => by
          have h2 := List.all_eq_true.1 hG o' (by simpa using Array.mem_of_getElem? ho)
          unfold Region.wanted
          cases hgd' : o'.guard with
          | none => rfl
          | some p =>
            obtain ⟨j, b⟩ := p
            rw [hgd'] at h2
            simp only [decide_eq_true_eq] at h2
            simp only [yielded]
            rw [Array.getElem?_push, if_neg (by omega)]
        unfold opAt at h1 ⊢
        rw [e1]
        cases ho : pre[i]? with
        | none =>
          simp only [ho] at h1 ⊢
          rw [e2]
          exact ih _ _ _ (by simpa using hs) h1
        | some o' =>
          simp only [ho] at h1 ⊢
          rw [e3 o' ho]
          split
          · rename_i hw
            rw [if_pos hw] at h1
            refine Oper.wp_mono (fun a' w' h => ?_) (wp_exits (fun x a w hx hq => ?_) h1)
            · rw [e2]
              exact ih _ _ _ (by simpa using hs) h
            · rcases hq with ⟨hq, _⟩ | ⟨_, hq⟩
              · exact absurd hq hx
              · exact hq
          · rename_i hw
            rw [if_neg hw] at h1
            rw [e2]
            exact ih _ _ _ (by simpa using hs) h1
theorem anyOrder_but_last {ops : Array Oper} {a : Act} {w : World} (hop : ops = pre.push o) (hok : lastOk pre o = true) (h : anyOrder P pre (lastQ P o Q) pre.size (Array.replicate pre.size false) a w) :
    anyOrder P ops Q ops.size (Array.replicate ops.size false) a w := by
  subst hop
  have e : Array.replicate (pre.push o).size false = (Array.replicate pre.size false).push false := by rw [Array.size_push, Array.replicate_succ]
  rw [e, Array.size_push]
  exact anyOrder_last hok _ _ _ _ (by simp) h
theorem anyOrder_pop {ops : Array Oper} {a : Act} {w : World} (hb : ops.back? = some o) (hok : lastOk ops.pop o = true) (h : anyOrder P ops.pop (lastQ P o Q) ops.pop.size (Array.replicate ops.pop.size false) a w) :
    anyOrder P ops Q ops.size (Array.replicate ops.size false) a w := by
  refine anyOrder_but_last (pre := ops.pop) (o := o) ?_ hok h
  have h1 := Array.back?_eq_some_iff.1 hb
  obtain ⟨xs, rfl⟩ := h1
  simp
theorem lastQ.assign {a : Act} {w : World} {v : Value} {s : Nat} (ho : o.op = .assign (.tmp s)) (hv : a.tmps[s]? = some v) (h : Q .normal (a.put o.dst v) w) : lastQ P o Q .normal a w := by
  refine Or.inl ⟨rfl, step_value (w2 := w) ?_ h⟩
  have e : a.eval (.tmp s) = v := by
    show a.tmps.getD s undef = v
    rw [Array.getD_eq_getD_getElem?, hv]
    rfl
  simp only [execOp, ho, e, Sem.run_pure]
end
end Go.Proofs.YtbbjeokecgnfpaaGreat
