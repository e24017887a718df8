/-
  slices.SortFunc at grams: the shelf's contract, laid at this program.
-/
import Derived.Test.YtfjnjlcmikhehaaGreatGramOut
import Derived.Test.YtfjnjlcmikhehaaGreatShelf
namespace Go.Proofs.YtfjnjlcmikhehaaGreat
open Go.RowKit Go.Shelf Go.Sort GramM
set_option linter.unusedVariables false
def encG (g : Gr) : List Value := [b8 g.1, b8 g.2.1, b8 g.2.2]
theorem ltG (x y : Gr) : ltOf cmpG x y = decide (numG x < numG y) := cmpG_neg x y
theorem swoG : SWO (ltOf cmpG) where
  irrefl x := by rw [ltG]; simp
  trans x y z h1 h2 := by rw [ltG] at *; simp at *; omega
  ntrans x y z h1 h2 := by rw [ltG] at *; simp at *; omega
theorem grC_getD : ∀ (gs : List Gr) (t : Nat), t < gs.length * 3 → (grC gs)[t]? = some ((encG (gs.toArray[t / 3]!))[t % 3]!) := by
  intro gs t ht
  obtain ⟨g, hg⟩ : ∃ g, gs[t / 3]? = some g := ⟨_, List.getElem?_eq_getElem (by omega)⟩
  obtain ⟨h1, h2, h3⟩ := grC_get hg
  have e : gs.toArray[t / 3]! = g := by
    have := (List.getElem?_eq_some_iff.1 hg)
    obtain ⟨hl, he⟩ := this
    rw [getElem!_pos gs.toArray (t / 3) (by simpa using hl)]
    simpa using he
  rw [e]
  have hd : t = t / 3 * 3 + t % 3 := by omega
  have hm : t % 3 = 0 ∨ t % 3 = 1 ∨ t % 3 = 2 := by omega
  rcases hm with h | h | h
  · rw [h, Nat.add_zero] at hd
    rw [h, hd, h1]
    rfl
  · rw [h] at hd
    rw [h, hd, h2]
    rfl
  · rw [h] at hd
    rw [h, hd, h3]
    rfl
theorem flat_grC (gs : List Gr) : (flatK encG 3 gs.toArray).toList = grC gs := by
  refine List.ext_getElem? fun t => ?_
  by_cases ht : t < gs.length * 3
  · rw [grC_getD gs t ht, Array.getElem?_toList]
    have hs : t < (flatK encG 3 gs.toArray).size := by simpa using ht
    rw [Array.getElem?_eq_getElem hs]
    have := get_flatK encG 3 gs.toArray t (by simpa using ht)
    rw [getElem!_pos _ t hs] at this
    rw [this]
  · have h1 : (flatK encG 3 gs.toArray).toList.length = gs.length * 3 := by simp
    have h2 := grC_len gs
    rw [List.getElem?_eq_none (by omega), List.getElem?_eq_none (by omega)]
theorem cmpLaysG (blk off size : Nat) (W : World) : CmpLays Tryz.prog 29 #[] encG 3 cmpG blk off size W := fun m os dk hd x y => by
  refine (gplaces1_any (sortWorldK encG 3 W blk off m dk os) x y).mono ?_
  rintro e w' ⟨rfl, q, rfl⟩
  exact ⟨rfl, q, _, by rw [alloc_eq_grow, alloc_eq_grow, grow_grow]; rfl⟩
theorem putCells_toList {F cur : Array Value} (h : F.size ≤ cur.size) : (putCells id 0 F cur).toList = F.toList ++ cur.toList.drop F.size := by
  refine List.ext_getElem? fun t => ?_
  rw [Array.getElem?_toList]
  unfold putCells
  rw [Array.getElem?_mapIdx]
  by_cases ht : t < F.size
  · rw [List.getElem?_append_left (by simpa using ht), Array.getElem?_toList, Array.getElem?_eq_getElem (by omega), Array.getElem?_eq_getElem ht]
    simp only [Option.map_some, Nat.zero_le, Nat.zero_add, true_and, if_pos ht, Nat.sub_zero, id]
    rw [getElem!_pos F t ht]
  · rw [List.getElem?_append_right (by simpa using ht), List.getElem?_drop, Array.length_toList, Array.getElem?_toList, show F.size + (t - F.size) = t by omega]
    cases hc : cur[t]? with
    | none => rfl
    | some c => simp [ht]
theorem sortsG : SortsG := by
  intro W base v gs ho hn
  rcases ho.2 with ⟨rfl, h0⟩ | ⟨g, cap, cur, rfl, hbg, hg, hnc, hcm, hcs, htk⟩
  · have hcon := AnyF.slices_SortFunc_none Tryz.sortGram none 0 (.func (.func 29) #[] #[]) W
    change Calls Tryz.prog 28 _ _ _ at hcon
    refine hcon.mono ?_
    rintro e w' ⟨rfl, rfl⟩
    have hgs : gs = [] := List.eq_nil_of_length_eq_zero h0
    subst hgs
    exact ⟨rfl, by simpa [sortG] using ho, Keep.refl _ _⟩
  · have eg : ∀ args w, (callFunc 29 args).run Tryz.prog w = .ok (.enter 29 args) w := enters_of Tryz.func29 (by kernel_rfl) rfl
    have hfl := flat_grC gs
    have hH : HoldsK encG 3 W g 0 gs.toArray := fun j hj => by
      have hb : Blk W g 51 cur := hg
      refine ⟨?_, hb.frozen _⟩
      rw [Nat.zero_add, hb.cell]
      have h1 : (flatK encG 3 gs.toArray).toList[j]? = cur.toList[j]? := by
        rw [hfl, ← htk, List.getElem?_take_of_lt (by simpa using hj)]
      rw [Array.getElem?_toList, Array.getElem?_toList, Array.getElem?_eq_getElem hj] at h1
      rw [← h1, getElem!_pos _ j hj]
      rfl
    have hcon := AnyQ.slices_SortFunc_total Tryz.sortGram 3 Tryz.isAgg51 Tryz.sizeOf51 encG (fun _ => rfl) (fun x v hv => by simp [encG, b8] at hv; rcases hv with rfl | rfl | rfl <;> rfl) cmpG swoG 29 #[] g 0 cap gs.toArray W eg (cmpLaysG g 0 gs.toArray.size W) hH (Array.getElem?_eq_some_iff.1 hg).1 (by simpa using hn)
      (fun x y h1 h2 => by
        rw [ltG] at h1 h2
        simp at h1 h2
        exact numG_inj (by omega))
    change Calls Tryz.prog 28 _ _ _ at hcon
    rw [List.size_toArray] at hcon
    refine hcon.mono ?_
    rintro e w' ⟨rfl, q, os, rfl⟩
    have hso : (gs.toArray.toList.mergeSort fun x y => !(ltOf cmpG) y x) = sortG gs := by
      unfold sortG
      congr 1
      funext x y
      rw [ltG]
    rw [hso]
    have hsl : (flatK encG 3 (sortG gs).toArray).toList = grC (sortG gs) := flat_grC _
    have hsz : (flatK encG 3 (sortG gs).toArray).size = gs.length * 3 := by simp [sortG_len]
    have hblk : (sortWorldK encG 3 W g 0 q (sortG gs).toArray os).heap[g]? = some (.cells (putCells id 0 (flatK encG 3 (sortG gs).toArray) cur) 51 (0, 0)) := by
      have hlt := (Array.getElem?_eq_some_iff.1 hg).1
      show (((W.heap.modify g _) ++ os)[g]? : Option Obj) = _
      rw [Array.getElem?_append_left (by simpa using hlt), Array.getElem?_modify, if_pos rfl, hg]
      rfl
    refine ⟨rfl, ⟨by rw [grC_len, sortG_len], Or.inr ⟨g, cap, _, rfl, hbg, hblk, hnc, hcm, by simp [putCells, hcs], ?_⟩⟩, rfl, rfl, rfl, ?_, fun j hj hs => ?_⟩
    · rw [putCells_toList (by rw [hsz, hcs]; exact Nat.mul_le_mul_right _ hnc), hsl]
      have : (grC (sortG gs)).length = gs.length * 3 := by rw [grC_len, sortG_len]
      rw [← this, List.take_left]
    · show W.heap.size ≤ ((W.heap.modify g _) ++ os).size
      simp
    · show (((W.heap.modify g _) ++ os)[j]? : Option Obj) = _
      rw [Array.getElem?_append_left (by simpa using hj), Array.getElem?_modify, if_neg fun e => hs (by show some g = some j; rw [e])]
end Go.Proofs.YtfjnjlcmikhehaaGreat
