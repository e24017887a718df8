/-
  The statement 'for x := range f { body }' at one outermost loop, walked together with the function that is ranged over, whatever state of its own that function keeps in boxes. Conditions: the body does not panic.
-/
import Derived.RangeFuncNested
import Derived.RangeFuncBound
import Derived.Lib.Hide
namespace Go.Proofs.Ytamdejidkgnaeaa
open Go.RowKit

section
variable {F : Fence} {n : Nat} {P : Program}

/-- How the body of a round may be left, said of abstract worlds: the loop's record lay 'busy'; behind the round's end it lies 'ready' (or 'done', a jump pending) and nothing else has turned. -/
def roundEnd (l : Nat) (rec : LoopState → Option Code → Loop) (R : Ending → World → Prop) : Exit → Act → World → Prop
  | .normal, _, w => w.heap[l]? = some (.loop (rec .busy none)) ∧ ∀ w', w.grownBy w' (some l) → w'.heap[l]? = some (.loop (rec .ready none)) → R (.returned (.bool true)) w'
  | .ret, _, w => w.heap[l]? = some (.loop (rec .busy none)) ∧ ∀ w', w.grownBy w' (some l) → w'.heap[l]? = some (.loop (rec .done (some .ret))) → R (.returned (.bool false)) w'
  | .exit id, _, w => w.heap[l]? = some (.loop (rec .busy none)) ∧ ∀ w', w.grownBy w' (some l) → w'.heap[l]? = some (.loop (rec .done (some (.exit id)))) → R (.returned (.bool false)) w'
  | .goto t, _, w => w.heap[l]? = some (.loop (rec .busy none)) ∧ ∀ w', w.grownBy w' (some l) → w'.heap[l]? = some (.loop (rec .done (some (.goto t)))) → R (.returned (.bool false)) w'
  | .panic _, _, _ => False
  | .outgrown, _, _ => False

/-- What is asked behind the assignment to the loop's left sides. -/
def roundBody (F : Fence) (n : Nat) (P : Program) (l : Nat) (rec : LoopState → Option Code → Loop) (body : Code) (R : Ending → World → Prop) (a₁ : Act) (w₁ : World) : Prop :=
  w₁.heap[l]? = some (.loop (rec .ready none)) ∧ ∀ w₂, w₁.grownBy w₂ (some l) → w₂.heap[l]? = some (.loop (rec .busy none)) → body.wpIn (F.inRound l) n P (roundEnd l rec R) a₁ w₂
theorem roundBody.mk {l : Nat} {rec : LoopState → Option Code → Loop} {body : Code} {R : Ending → World → Prop} {a₁ : Act} {w₁ : World} (h1 : w₁.heap[l]? = some (.loop (rec .ready none)))
    (h2 : ∀ w₂, w₁.grownBy w₂ (some l) → w₂.heap[l]? = some (.loop (rec .busy none)) → body.wpIn (F.inRound l) n P (roundEnd l rec R) a₁ w₂) : roundBody F n P l rec body R a₁ w₁ := ⟨h1, h2⟩
theorem roundEnd.on {l : Nat} {rec : LoopState → Option Code → Loop} {R : Ending → World → Prop} {a : Act} {w : World} (h1 : w.heap[l]? = some (.loop (rec .busy none)))
    (h2 : ∀ w', w.grownBy w' (some l) → w'.heap[l]? = some (.loop (rec .ready none)) → R (.returned (.bool true)) w') : roundEnd l rec R .normal a w := ⟨h1, h2⟩
theorem roundEnd.exit {l id : Nat} {rec : LoopState → Option Code → Loop} {R : Ending → World → Prop} {a : Act} {w : World} (h1 : w.heap[l]? = some (.loop (rec .busy none)))
    (h2 : ∀ w', w.grownBy w' (some l) → w'.heap[l]? = some (.loop (rec .done (some (.exit id)))) → R (.returned (.bool false)) w') : roundEnd l rec R (.exit id) a w := ⟨h1, h2⟩
theorem roundEnd.ret {l : Nat} {rec : LoopState → Option Code → Loop} {R : Ending → World → Prop} {a : Act} {w : World} (h1 : w.heap[l]? = some (.loop (rec .busy none)))
    (h2 : ∀ w', w.grownBy w' (some l) → w'.heap[l]? = some (.loop (rec .done (some .ret))) → R (.returned (.bool false)) w') : roundEnd l rec R .ret a w := ⟨h1, h2⟩
theorem roundEnd.goto {l t : Nat} {rec : LoopState → Option Code → Loop} {R : Ending → World → Prop} {a : Act} {w : World} (h1 : w.heap[l]? = some (.loop (rec .busy none)))
    (h2 : ∀ w', w.grownBy w' (some l) → w'.heap[l]? = some (.loop (rec .done (some (.goto t)))) → R (.returned (.bool false)) w') : roundEnd l rec R (.goto t) a w := ⟨h1, h2⟩

/-- A call of yield is one round. -/
theorem yieldJ {l D fn : Nat} {rec : LoopState → Option Code → Loop} {tmps : Array Value} {ps : Array Tmp} {assign body : Code} (hfn : F.fn fn)
    (hrec0 : Hid (rec = fun st pe => { state := st, pending := pe, fn, tmps, params := ps, assign, body, defers := D }))
    {args : Array Value} {W : World} {R : Ending → World → Prop} (hl : W.heap[l]? = some (.loop (rec .ready none))) (hs : args.size = ps.size)
    (h : assign.wpIn (F.inRound l) n P (Exit.then (roundBody F n P l rec body R) (fun _ _ _ => False))
      { tmps := (ps.zip args).foldl (fun t (p, v) => t.setIfInBounds p v) tmps, defers := [] } W) :
    YieldAt F n P l args W R := by
  have hrec := hrec0.out
  have hy := run_yield (P := P) (args := args) hl (by rw [hrec]; exact hs)
  rw [hrec] at hy
  refine ⟨fn, _, assign, body, hy, roundIn_of_wpIn hfn (wpIn_mono h ?_)⟩
  rintro e a₁ w₁ hp
  cases e with
  | normal =>
    obtain ⟨hl1, hb⟩ := hp
    refine ⟨_, run_beginRound hl1 (by rw [hrec]), ?_⟩
    have hlt := (Array.getElem?_eq_some_iff.1 hl1).1
    have e2 : ({ rec .ready none with state := .busy } : Loop) = rec .busy none := by rw [hrec]
    rw [e2]
    refine wpIn_mono (hb _ (grownBy_putObj' w₁ l _) (World.putObj_heap_same hlt)) ?_
    have fin : ∀ (jump : Option Code) (W3 : World), W3.heap[l]? = some (.loop (rec .busy none)) →
        (Instr.endRound l jump).run P W3 = .ok (.bool jump.isNone) (W3.putObj l (.loop (rec (if jump.isNone then .ready else .done) jump))) := fun jump W3 h3 => by
      have := run_endRound (P := P) jump h3
      rw [hrec] at this ⊢
      exact this
    rintro e a3 W3 hp
    cases e with
    | normal =>
      obtain ⟨h3, hR⟩ := hp
      exact ⟨_, _, fin none W3 h3, hR _ (grownBy_putObj' W3 l _) (World.putObj_heap_same (Array.getElem?_eq_some_iff.1 h3).1)⟩
    | ret =>
      obtain ⟨h3, hR⟩ := hp
      exact ⟨_, _, fin (some .ret) W3 h3, hR _ (grownBy_putObj' W3 l _) (World.putObj_heap_same (Array.getElem?_eq_some_iff.1 h3).1)⟩
    | exit id =>
      obtain ⟨h3, hR⟩ := hp
      exact ⟨_, _, fin (some (.exit id)) W3 h3, hR _ (grownBy_putObj' W3 l _) (World.putObj_heap_same (Array.getElem?_eq_some_iff.1 h3).1)⟩
    | goto t =>
      obtain ⟨h3, hR⟩ := hp
      exact ⟨_, _, fin (some (.goto t)) W3 h3, hR _ (grownBy_putObj' W3 l _) (World.putObj_heap_same (Array.getElem?_eq_some_iff.1 h3).1)⟩
    | panic ch => exact hp.elim
    | outgrown => exact hp.elim
  | ret => exact hp.elim
  | exit id => exact hp.elim
  | goto t => exact hp.elim
  | panic ch => exact hp.elim
  | outgrown => exact hp.elim

/-- The statement. What the function that is ranged over leaves: the record is not busy; a pending jump is carried out behind the loop. -/
theorem rangeJ {g : Operand} {ps : Array Tmp} {assign body : Code} {Q : Exit → Act → World → Prop} {a : Act} {w : World}
    (hro : F.round = none) (h1 : 1 ≤ n) {gf : Nat} {lb : Array Value} (hg : a.eval g = .func (.func gf) #[] lb) (hFg : F.fn gf) (eg : ∀ args w, (callFunc gf args).run P w = .ok (.enter gf args) w)
    (h : ∀ (fn : Nat) (rec : LoopState → Option Code → Loop) (W1 : World), F.fn fn →
      Hid (rec = fun st pe => { state := st, pending := pe, fn, tmps := a.tmps, params := ps, assign, body, defers := w.heap.size }) →
      w.grownBy W1 none → w.heap.size + 2 ≤ W1.heap.size → W1.heap[w.heap.size]? = some (.deferred (some [])) → W1.heap[w.heap.size + 1]? = some (.loop (rec .ready none)) →
      CallsIn F (n - 1) P gf (#[.func (.yield (w.heap.size + 1)) #[] #[]] ++ lb) W1 fun e W2 => ∃ v st pe, e = .returned v ∧ st ≠ .busy ∧ W2.heap[w.heap.size + 1]? = some (.loop (rec st pe)) ∧
        ∀ W3, W2.grownBy W3 (some (w.heap.size + 1)) →
          (match pe with
          | none => Q .normal { a with defers := { target := .collected w.heap.size, args := #[] } :: a.defers } W3
          | some c => c.wpIn F n P Q { a with defers := { target := .collected w.heap.size, args := #[] } :: a.defers } W3)) :
    (Code.rangeFunc g ps assign body).wpIn F n P Q a w := by
  refine wpIn_rangeFunc ?_
  intro fn hfn
  rw [hro]
  obtain ⟨rec, hrec⟩ : ∃ rec : LoopState → Option Code → Loop, rec = fun st pe => { state := st, pending := pe, fn, tmps := a.tmps, params := ps, assign, body, defers := w.heap.size } := ⟨_, rfl⟩
  obtain ⟨W1, hW1⟩ : ∃ W1, (w.alloc (.deferred (some []))).alloc (.loop (rec .ready none)) = W1 := ⟨_, rfl⟩
  have hL1 : W1.heap[w.heap.size + 1]? = some (.loop (rec .ready none)) := by
    rw [← hW1]; have := World.alloc_heap_new (w.alloc (.deferred (some []))) (.loop (rec .ready none)); rwa [World.size_alloc] at this
  have hK1 : W1.heap[w.heap.size]? = some (.deferred (some [])) := by
    rw [← hW1]; exact (Below.heap_alloc _ _ _ (by simp)).trans (World.alloc_heap_new w _)
  have hz : w.heap.size + 2 ≤ W1.heap.size := by rw [← hW1]; simp
  have hg1 : w.grownBy W1 none := by
    rw [← hW1]
    refine ⟨rfl, rfl, rfl, by simp; omega, fun k hk _ => ?_⟩
    rw [Below.heap_alloc _ _ _ (by simp; omega), Below.heap_alloc _ _ _ hk]
  refine ⟨w.heap.size + 1, [{ target := .collected w.heap.size, args := #[] }], W1, { target := .fn (.func gf) lb, args := #[.func (.yield (w.heap.size + 1)) #[] #[]] }, W1, gf,
    #[.func (.yield (w.heap.size + 1)) #[] #[]] ++ lb, W1, ?_, ?_, ?_, ?_, fun _ => h1, ?_⟩
  · rw [← hW1, hrec]; exact run_enterLoop_outer _ _ _ _ _
  · simp only [resolve, hg]
    simp [go_sem]
  · intro f' hf'; simp [Target.leads] at hf'; subst hf'; exact hFg
  · simp [invoke, go_sem, eg]
  · refine (h fn rec W1 hfn (Lib.hid hrec) hg1 hz hK1 hL1).mono ?_
    rintro e W2 ⟨v, st, pe, rfl, hst, hl2, hQ⟩
    have he := run_endLoop (P := P) hl2 (by rw [hrec]; exact hst)
    have e2 : (rec st pe).pending = pe := by rw [hrec]
    rw [e2] at he
    exact ⟨pe, _, he, hQ _ (grownBy_putObj' W2 _ _)⟩
end
end Go.Proofs.Ytamdejidkgnaeaa
