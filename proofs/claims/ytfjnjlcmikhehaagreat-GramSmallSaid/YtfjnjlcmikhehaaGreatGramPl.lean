/-
  The walk of gram's places: the map of the grams, and the grams, rising.
-/
import Derived.Test.YtfjnjlcmikhehaaGreatGramAll
import Derived.Test.YtfjnjlcmikhehaaGreatGramRows
import Derived.Test.YtfjnjlcmikhehaaGreatGramCmp
import Derived.Deep.LoopGhost
import Derived.BigQuiet
import Derived.WalkMore
import Derived.RangeFuncBox
import Derived.RangeFuncCalls
import Derived.RegionIn
import Derived.BigRegionIn
namespace Go.Proofs.YtfjnjlcmikhehaaGreat
open Go.RowKit Go.Shelf GramM
set_option linter.unusedVariables false
attribute [local go_sem] Oper.semAt_some
theorem blkOf {w w1 : World} (hg : Grow w w1) {k t : Nat} {cs : Array Value} (h : Blk w k t cs) : Blk w1 k t cs := h.below hg h.lt
/-- what the rounds of places keep -/
structure PlI (w : World) (gs : List Gr) (D lp : Nat) (o : Obj) (k : Nat) (W : World) : Prop where
  loop : W.heap[lp]? = some o
  defers : W.heap[D]? = some (.deferred (some []))
  map : MapOf W (w.heap.size + 3) w.heap.size (firsts [] (gs.take k)) (fun g => posOf gs g k)
  mbox : Blk W (w.heap.size + 1) 46 #[.map (some w.heap.size)]
  gbox : ∃ v, Blk W (w.heap.size + 2) 47 #[v] ∧ W.ownsRow (w.heap.size + 3) 51 3 v (firsts [] (gs.take k)).length (grC (firsts [] (gs.take k)))
  grow : Grow w W
theorem readsP (w : World) (t s : Nat) (cs : List Value) (h : cs.length = 1 * s) : ReadsAt (w.alloc (.cells cs.toArray t)) (w.heap.size + 1) s (some ⟨w.heap.size, 0, none⟩) 1 cs :=
  ⟨h, fun _ => ⟨w.heap.size, 0, rfl, by omega, fun j u hu => by
    rw [(Blk.new w t cs.toArray).cell, Nat.zero_add]
    simpa using hu⟩⟩
theorem own_made (w : World) (t s base : Nat) (cs : List Value) (h : cs.length = 1 * s) (hb : base ≤ w.heap.size) : (w.alloc (.cells cs.toArray t)).ownsRow base t s (.slice (some ⟨w.heap.size, 0, none⟩) 1 1) 1 cs :=
  ⟨h, Or.inr ⟨w.heap.size, 1, cs.toArray, rfl, hb, heap_alloc_new w _, Nat.le_refl _, by unfold maxLen; omega, by simp [h], by rw [← h]; simp⟩⟩
theorem PlI.step {w W w' : World} {gs : List Gr} {D lp k : Nat} {o o' : Obj} {S : Nat → Prop} (h : PlI w gs D lp o k W) (hk : Keep S W w') (hS : ∀ j, S j → w.heap.size ≤ j) (hl : w'.heap[lp]? = some o') (hD : ¬ S D) (hB : ¬ S (w.heap.size + 1))
    (hm : MapOf w' (w.heap.size + 3) w.heap.size (firsts [] (gs.take (k + 1))) (fun g => posOf gs g (k + 1)))
    (hg : ∃ v, Blk w' (w.heap.size + 2) 47 #[v] ∧ w'.ownsRow (w.heap.size + 3) 51 3 v (firsts [] (gs.take (k + 1))).length (grC (firsts [] (gs.take (k + 1))))) : PlI w gs D lp o' (k + 1) w' :=
  ⟨hl, hk.obj h.defers hD, hm, hk.blk h.mbox hB, hg, ((Keep.grow (S := S) h.grow).trans' hk).below hS (Nat.le_refl _)⟩
theorem lastQ.update {P : Program} {o : Oper} {Q : Exit → Act → World → Prop} {a : Act} {w w' : World} (ty : TypeId) (s1 s2 s3 : Nat) (ho : o.op = .mapUpdate ty (.tmp s1) (.tmp s2) (.tmp s3)) {u1 u2 u3 : Value} (h1 : a.tmps[s1]? = some u1) (h2 : a.tmps[s2]? = some u2) (h3 : a.tmps[s3]? = some u3)
    (hr : (Instr.mapUpdate ty u1 u2 u3).run P w = .ok () w') (h : Q .normal (a.put o.dst undef) w') : lastQ P o Q .normal a w := by
  refine Or.inl ⟨rfl, ?_⟩
  unfold Oper.wp execOp
  simp only [ho, Sem.run_bind, evalT h1, evalT h2, evalT h3, hr, Result.andThen_ok, Sem.run_pure]
  exact h
/-- a slice of one new place -/
def FactOn.newS1 {S : Nat → Prop} (B0 : Nat) (hS : ∀ k, S k → k < B0) (t : TypeId) (cs : List Value) : FactOn (Keep S) :=
  ⟨fun u w => ∃ m, u = .slice (some ⟨m, 0, none⟩) 1 1 ∧ B0 ≤ m ∧ Blk w m t cs.toArray, fun _ _ _ hk ⟨m, h1, h2, h3⟩ => ⟨m, h1, h2, hk.blk h3 (fun hs => by have := hS m hs; omega)⟩⟩
theorem readsB {w : World} {t s g : Nat} {cs : List Value} (h : cs.length = 1 * s) (hb : Blk w g t cs.toArray) : ReadsAt w w.heap.size s (some ⟨g, 0, none⟩) 1 cs :=
  ⟨h, fun _ => ⟨g, 0, rfl, hb.lt, fun j u hu => by
    rw [hb.cell, Nat.zero_add]
    simpa using hu⟩⟩
/-- the one place is put behind a gram's -/
def plW (w0 : World) (l : Value) (base n : Nat) (xs : List Value) : List Value → World → Prop
  | [], w => Grow w0 w
  | [v], w => w.ownsRow base 44 2 v n xs ∧ Keep (fun j => l.ownBlock = some j) w0 w ∧ ∀ b, v.ownBlock = some b → l.ownBlock = some b ∨ w0.heap.size ≤ b
  | _, _ => False
theorem plW.grow {w0 : World} {l : Value} {base n : Nat} {xs : List Value} : ∀ (vals : List Value) (x y : World), Grow x y → plW w0 l base n xs vals x → plW w0 l base n xs vals y
  | [], _, _, g, h => Grow.trans h g
  | [_], _, _, g, ⟨h1, h2, h3⟩ => ⟨own_below h1 g, h2.trans' (Keep.grow g), h3⟩
  | _ :: _ :: _, _, _, _, h => h
/-- the grams, rising -/
def sortG (gs : List Gr) : List Gr := gs.mergeSort fun x y => !decide (numG y < numG x)
theorem sortG_perm (gs : List Gr) : (sortG gs).Perm gs := List.mergeSort_perm _ _
theorem sortG_len (gs : List Gr) : (sortG gs).length = gs.length := (sortG_perm gs).length_eq
/-- what slices.SortFunc does to a row of grams -/
def SortsG : Prop := ∀ (W : World) (base : Nat) (v : Value) (gs : List Gr), W.ownsRow base 51 3 v gs.length (grC gs) → gs.length < 4611686018427387904 →
  Calls Tryz.prog 28 #[v, .func (.func 29) #[] #[]] W fun e w' => e = .returned (.tuple #[]) ∧ w'.ownsRow base 51 3 v gs.length (grC (sortG gs)) ∧ Keep (fun j => v.ownBlock = some j) W w'
/-- what places tells -/
def PlTo (w : World) (gs : List Gr) (e : Ending) (w' : World) : Prop :=
  ∃ v, e = .returned (.tuple #[.map (some w.heap.size), v]) ∧ Grow w w' ∧ MapOf w' (w.heap.size + 3) w.heap.size (firsts [] gs) (fun g => posOf gs g gs.length) ∧ w'.ownsRow (w.heap.size + 3) 51 3 v (firsts [] gs).length (grC (sortG (firsts [] gs)))
set_option maxRecDepth 100000 in
set_option maxHeartbeats 4000000 in
theorem gplaces_any (hsort : SortsG) (w : World) (B : Nat) (A : Option Addr) (n c : Nat) (b : List UInt8) (hb : BytesAt w B A n b) (hB : B ≤ w.heap.size) (hnc : n ≤ c) (hcm : c ≤ maxLen) (hn : n ≤ 1099511627776) :
    Calls Tryz.prog 21 #[.slice A n c] w (PlTo w (grams b)) := by
  have placeTy : AppTy Tryz.prog 40 44 (.agg #[.int .i64 0, .int .i64 0]) 2 16 := AppTy.mk' Tryz.underlying40 (by kernel_rfl) rfl (by decide)
  have gramTy : AppTy Tryz.prog 47 51 (.agg #[.int .u8 0, .int .u8 0, .int .u8 0]) 3 3 := AppTy.mk' Tryz.underlying47 (by kernel_rfl) rfl (by decide)
  refine (callsIn_wide (n := 4)).1 ?_
  refine callsIn_of_wp_marks Tryz.func21 rfl trivial ?_ rfl
  simp only [Tryz.ntmps21, List.size_toArray, List.length_cons, List.length_nil, Nat.reduceSub, Nat.reduceAdd, Array.replicate_succ, Array.replicate_zero, List.push_toArray, List.append_toArray, List.nil_append, List.cons_append]
  have Hsort := Lib.hid hsort
  have Hb := Lib.hid hb
  have HB := Lib.hid hB
  have Hnc := Lib.hid hnc
  have Hcm := Lib.hid hcm
  clear hb hB hnc hcm hsort
  gi_wp2
  refine wpIn_wide.2 (wp_scope_straight ((wpIn_wide (n := 4)).1 ?_))
  have hmk : (Instr.makeMap 46 none).run Tryz.prog w = .ok (.map (some w.heap.size)) (w.alloc (.map #[] 0)) := rfl
  gi_wp2
  clear hmk
  obtain ⟨W0, hW0⟩ : ∃ W0, ((w.alloc (.map #[] 0)).alloc (.cells #[.map (some w.heap.size)] 46)).alloc (.cells #[.slice none 0 0] 47) = W0 := ⟨_, rfl⟩
  have hG0 : Grow w W0 := by rw [← hW0]; exact ((Grow.alloc _ _).trans (Grow.alloc _ _)).trans (Grow.alloc _ _)
  have hbM : Blk W0 (w.heap.size + 1) 46 #[.map (some w.heap.size)] := by
    rw [← hW0]
    have := Blk.new (w.alloc (.map #[] 0)) 46 #[.map (some w.heap.size)]
    exact Blk.alloc (by simpa using this) _
  have hbG : Blk W0 (w.heap.size + 2) 47 #[.slice none 0 0] := by
    rw [← hW0]
    have := Blk.new ((w.alloc (.map #[] 0)).alloc (.cells #[.map (some w.heap.size)] 46)) 47 #[.slice none 0 0]
    simpa using this
  have hM0 : MapOf W0 (w.heap.size + 3) w.heap.size [] (fun g => posOf (grams b) g 0) := by
    have h1 := GMapAt.new w
    have h2 : MapOf (w.alloc (.map #[] 0)) (w.heap.size + 3) w.heap.size [] (fun g => posOf (grams b) g 0) := ⟨[], h1, rfl, fun g v h => by simp at h, fun g v _ _ _ h => by simp at h⟩
    rw [← hW0]
    exact h2.grow ((Grow.alloc _ _).trans (Grow.alloc _ _))
  rw [hW0]
  clear hW0
  refine wpIn_label ?_
  gi_wp2_with (refine ⟨trivial, ?_⟩; gi_at_call 22; refine (callsIn_wide.2 (gall_any A n c _)).mono ?_; rintro e w' ⟨rfl, rfl⟩)
  obtain ⟨W5, hW5⟩ : ∃ W5, W0.alloc (.cells #[.slice A n c] 22) = W5 := ⟨_, rfl⟩
  have hx5 : Boxed W5 W0.heap.size 22 (.slice A n c) := by rw [← hW5]; exact Boxed.new _ _ _
  have hG5 : Grow W0 W5 := by rw [← hW5]; exact Grow.alloc _ _
  have hzG := hbG.lt
  rw [hW5]
  have hz5 : W0.heap.size < W5.heap.size := hx5.lt
  clear hW5
  refine rangeJ rfl (by omega) (gf := 31) (lb := #[.pointer (some ⟨W0.heap.size, 0, none⟩)]) rfl trivial (enters_of Tryz.func31 (by kernel_rfl) rfl) ?_
  intro fn rec W6 _ hrec hg6 hz6 hD6 hlp6
  have hk6 : Keep (fun _ => False) W5 W6 := (Keep.grown hg6).mono fun j h => by cases h
  have hG6 : Grow W5 W6 := hk6.below (fun _ h => h.elim) (Nat.le_refl _)
  have hGw := (hG0.trans hG5).trans hG6
  have hJ0 : PlI w (grams b) W5.heap.size (W5.heap.size + 1) (.loop (rec .ready none)) 0 W6 := ⟨hlp6, hD6, hM0.grow (hG5.trans hG6), blkOf (hG5.trans hG6) hbM, ⟨_, blkOf (hG5.trans hG6) hbG, World.ownsRow_nil _ _ _ _⟩, hGw⟩
  refine (gall1_any 3 (by omega) (W5.heap.size + 1) W0.heap.size w.heap.size A n c b Hnc.out Hcm.out (fun k W => PlI w (grams b) W5.heap.size (W5.heap.size + 1) (.loop (rec .ready none)) k W) ?yes W6 ((Hb.out.more HB.out).below hGw) (Keep.blk hk6 (show Blk W5 W0.heap.size 22 #[.slice A n c] from hx5) (fun h => h)) hJ0).mono ?_
  case yes =>
    clear hJ0 hk6 hg6 hD6 hlp6 hx5 hG6 hGw hbM hbG hM0
    intro k g W hgk hJ hbx hbb
    refine yieldJ trivial hrec hJ.loop rfl ?_
    unfold gv b8
    gi_wp2
    have hga : Grow W (W.alloc (.cells #[b8 g.1, b8 g.2.1, b8 g.2.2] 51)) := Grow.alloc _ _
    have hgb : Blk (W.alloc (.cells #[b8 g.1, b8 g.2.1, b8 g.2.2] 51)) W.heap.size 51 #[b8 g.1, b8 g.2.1, b8 g.2.2] := Blk.new _ _ _
    have hlw := (Array.getElem?_eq_some_iff.1 hJ.loop).1
    have hla : (W.alloc (.cells #[b8 g.1, b8 g.2.1, b8 g.2.2] 51)).heap[W5.heap.size + 1]? = some (.loop (rec .ready none)) := (hga.block _ hlw).trans hJ.loop
    obtain ⟨Wa, hWa⟩ : ∃ Wa, W.alloc (.cells #[b8 g.1, b8 g.2.1, b8 g.2.2] 51) = Wa := ⟨_, rfl⟩
    have hWsz : Wa.heap.size = W.heap.size + 1 := by rw [← hWa]; simp
    rw [hWa] at hga hgb hla
    rw [show (W.alloc (.cells #[.int .u8 (g.1.toNat : Int), .int .u8 (g.2.1.toNat : Int), .int .u8 (g.2.2.toNat : Int)] 51)) = Wa from hWa]
    clear hWa
    refine roundBody.mk hla fun w2 hg2 hl2 => ?_
    have hk2 : Keep (fun j => j = W5.heap.size + 1) W w2 := (Keep.grow hga).trans' ((Keep.grown hg2).mono fun j hj => by injection hj with hj; exact Or.inl hj.symm)
    obtain ⟨v, hG, hown⟩ := hJ.gbox
    have hm1 := hJ.map.lt
    have hnl : ∀ j cs t, j = W5.heap.size + 1 → W.heap[j]? ≠ some (.cells cs t (0, 0)) := fun j cs t e q => by
      rw [e, hJ.loop] at q
      cases q
    have hgw := hJ.grow.size
    have hM2 : MapOf w2 (w.heap.size + 3) w.heap.size (firsts [] ((grams b).take k)) (fun g => posOf (grams b) g k) := hJ.map.keep hk2 (by omega) fun j cs e => hnl j cs _ e
    have hmb2 : Blk w2 (w.heap.size + 1) 46 #[.map (some w.heap.size)] := hk2.blk hJ.mbox (by omega)
    have hG2 : Blk w2 (w.heap.size + 2) 47 #[v] := hk2.blk hG (by omega)
    have hown2 := hk2.own hown fun b hb e => by
      obtain ⟨cur, q⟩ := own_obj hown hb
      exact hnl _ _ _ e q
    have hD2 : w2.heap[W5.heap.size]? = some (.deferred (some [])) := hk2.obj hJ.defers (by omega)
    have hgb2 : Blk w2 W.heap.size 51 #[b8 g.1, b8 g.2.1, b8 g.2.2] := (Keep.grown hg2).blk hgb (by simp; omega)
    have hbx2 : Blk w2 W0.heap.size 22 #[.slice A n c] := hk2.blk (show Blk W W0.heap.size 22 #[.slice A n c] from hbx) (by omega)
    have hsz2 : Wa.heap.size ≤ w2.heap.size := hg2.size
    have hp2 : w.heap.size < w2.heap.size := hM2.lt
    have hp3 := hG2.lt
    have hp4 := hgb2.lt
    have HM2 := Lib.hid hM2
    have Hmb2 := Lib.hid hmb2
    have HG2 := Lib.hid hG2
    have Hown2 := Lib.hid hown2
    have HD2 := Lib.hid hD2
    have Hbx2 := Lib.hid hbx2
    have Hbx := Lib.hid hbx
    have HJ := Lib.hid hJ
    have Hgk := Lib.hid hgk
    have Hbb := Lib.hid hbb
    have Hgb2 := Lib.hid hgb2
    have Hl2 := Lib.hid hl2
    have HW := Lib.hid (And.intro hG hown)
    clear hJ hgk hbx hbb hM2 hmb2 hG2 hown2 hD2 hbx2 hgb2 hG hown hnl hla hgb hl2
    have Hk2 := Lib.hid hk2
    clear hk2 hg2 hga hlw
    have hg3 : Grow w2 (w2.alloc (.cells #[.int .i64 0, .int .i64 (k : Int)] 44)) := Grow.alloc _ _
    have hpb3 : Blk (w2.alloc (.cells #[.int .i64 0, .int .i64 (k : Int)] 44)) w2.heap.size 44 #[.int .i64 0, .int .i64 (k : Int)] := Blk.new _ _ _
    have hsz3 : (w2.alloc (.cells #[.int .i64 0, .int .i64 (k : Int)] 44)).heap.size = w2.heap.size + 1 := by simp
    have hcm := (blkOf hg3 Hmb2.out).cell 0
    have hcG := (blkOf hg3 HG2.out).cell 0
    have hc1 := (blkOf hg3 Hgb2.out).cell 0
    have hc2 := (blkOf hg3 Hgb2.out).cell 1
    have hc3 := (blkOf hg3 Hgb2.out).cell 2
    have hMa := HM2.out.grow hg3
    unfold b8 at hc1 hc2 hc3
    have Hg3 := Lib.hid hg3
    have Hpb3 := Lib.hid hpb3
    have Hsz3 := Lib.hid hsz3
    clear hg3 hpb3 hsz3
    by_cases hmem : g ∈ firsts [] ((grams b).take k)
    · obtain ⟨l, hlook, hol, hput⟩ := HM2.out.hit (f' := fun h => posOf (grams b) h (k + 1)) hmem
      have hlp : ¬ l.ownBlock = some w2.heap.size := fun e => Nat.lt_irrefl _ (hol.lt _ e).2
      have Hput := Lib.hid hput
      have Hmem := Lib.hid hmem
      have hlk := hlook _ true Hg3.out
      have Hol := Lib.hid (own_below hol Hg3.out)
      clear hMa hol hput hlook hmem
      unfold gv b8 at hlk
      simp only [if_true] at hlk
      gi_wp2_with fail
      obtain ⟨u3, hu3⟩ : ∃ u3, w2.alloc (.cells #[.int .i64 0, .int .i64 (k : Int)] 44) = u3 := ⟨_, rfl⟩
      rw [hu3] at Hg3 Hpb3 Hsz3 Hol ⊢
      clear hu3 hcm hcG hc1 hc2 hc3 hlk
      have hlS : ∀ j, l.ownBlock = some j → j < u3.heap.size := fun j h => (Hol.out.lt j h).2
      have hlo : ∀ j o, u3.heap[j]? = some o → (∀ cs, o ≠ .cells cs 44 (0, 0)) → ¬ l.ownBlock = some j := fun j o ho hno e => by
        obtain ⟨cur, q⟩ := own_obj Hol.out e
        rw [ho] at q
        injection q with q
        exact hno _ q
      have hbm := blkOf Hg3.out Hmb2.out
      have hbg := blkOf Hg3.out Hgb2.out
      have hlm := hlo _ _ (show u3.heap[w.heap.size + 1]? = _ from hbm) (fun cs q => by cases q)
      have hlg := hlo _ _ (show u3.heap[W.heap.size]? = _ from hbg) (fun cs q => by cases q)
      have HcM := Lib.hid (show ∀ w', Keep (fun j => l.ownBlock = some j) u3 w' → w'.cell? ⟨w.heap.size + 1, 0, none⟩ = some (.map (some w.heap.size)) from fun w' h => (h.blk hbm hlm).cell 0)
      have Hcg := Lib.hid (show ∀ w', Keep (fun j => l.ownBlock = some j) u3 w' → Blk w' W.heap.size 51 #[b8 g.1, b8 g.2.1, b8 g.2.2] from fun w' h => h.blk hbg hlg)
      have Hbz := Lib.hid (show w.heap.size + 3 ≤ u3.heap.size by
        have := Hsz3.out
        omega)
      obtain ⟨pn, hpn⟩ : ∃ pn, pn = (posOf (grams b) g k).length := ⟨_, rfl⟩
      have hpk : pn ≤ n := by
        rw [hpn]
        refine Nat.le_trans (posOf_len _ _ _) ?_
        have h2 := (List.getElem?_eq_some_iff.1 Hgk.out).1
        have h3 := grams_len b
        have h4 := Hb.out.len
        omega
      rw [← hpn] at Hol
      have Hpn := Lib.hid hpn
      have Hcp := Lib.hid (show ∀ w', Keep (fun j => l.ownBlock = some j) u3 w' → Blk w' w2.heap.size 44 #[.int .i64 0, .int .i64 (k : Int)] from fun w' h => h.blk Hpb3.out hlp)
      clear hpn hbm hbg hlm hlg hlp
      refine wpIn_region_stages (by kernel_rfl) (by kernel_rfl) ?_
      refine anyOrder_pop rfl (by kernel_rfl) ?_
      refine anyOrder_start [5] (Keep (fun j => l.ownBlock = some j)) (plW u3 l (w.heap.size + 3) (pn + 1) (plC (posOf (grams b) g k) ++ [.int .i64 0, .int .i64 (k : Int)])) (FactsOn [.is (.map (some w.heap.size)), .is (.agg #[.int .u8 (g.1.toNat : Int), .int .u8 (g.2.1.toNat : Int), .int .u8 (g.2.2.toNat : Int)]), .is (l), .is (.agg #[.int .i64 0, .int .i64 (k : Int)]), .newS1 u3.heap.size hlS 44 [.int .i64 0, .int .i64 (k : Int)], .any]) (fun i => 99) keep_trans keep_grow (plW.grow) (factsOn_mono _) (by kernel_rfl) (by kernel_rfl) (Grow.refl _) ?_ ?_
      · refine ⟨?_, ?_, ?_, ?_, ?_, ?_, trivial⟩
        · refine stageOf_free rfl (fun _ _ _ _ _ _ => wanted_none rfl) ?_
          intro us vals w3 a' ha hle hW hd hv K hK
          have q4 : a'.tmps[4]? = some (.pointer (some ⟨w.heap.size + 1, 0, none⟩)) := slot_old ha (by kernel_rfl) (by kernel_rfl)
          have hc := HcM.out w3 hle
          refine step_value (v := .map (some w.heap.size)) (w2 := w3) ?_ (hK _ _ (Grow.refl _) rfl)
          go_simp
        · refine stageOf_free rfl (fun _ _ _ _ _ _ => wanted_none rfl) ?_
          intro us vals w3 a' ha hle hW hd hv K hK
          have q7 : a'.tmps[7]? = some (.pointer (some ⟨W.heap.size, 0, none⟩)) := slot_old ha (by kernel_rfl) (by kernel_rfl)
          have hb := Hcg.out w3 hle
          have hc1 := hb.cell 0
          have hc2 := hb.cell 1
          have hc3 := hb.cell 2
          unfold b8 at hc1 hc2 hc3
          refine step_value (v := .agg #[.int .u8 (g.1.toNat : Int), .int .u8 (g.2.1.toNat : Int), .int .u8 (g.2.2.toNat : Int)]) (w2 := w3) ?_ (hK _ _ (Grow.refl _) rfl)
          go_simp
        · refine stageOf_free rfl (fun _ _ _ _ _ _ => wanted_none rfl) ?_
          intro us vals w3 a' ha hle hW hd hv K hK
          have q9 : a'.tmps[9]? = some (l) := slot_old ha (by kernel_rfl) (by kernel_rfl)
          exact step_value (w2 := w3) (by go_simp) (hK _ _ (Grow.refl _) rfl)
        · refine stageOf_free rfl (fun _ _ _ _ _ _ => wanted_none rfl) ?_
          intro us vals w3 a' ha hle hW hd hv K hK
          have q8 : a'.tmps[8]? = some (.pointer (some ⟨w2.heap.size, 0, none⟩)) := slot_old ha (by kernel_rfl) (by kernel_rfl)
          have hb := Hcp.out w3 hle
          have hc1 := hb.cell 0
          have hc2 := hb.cell 1
          refine step_value (v := .agg #[.int .i64 0, .int .i64 (k : Int)]) (w2 := w3) ?_ (hK _ _ (Grow.refl _) rfl)
          go_simp
        · refine stageOf_free rfl (fun _ _ _ _ _ _ => wanted_none rfl) ?_
          intro us vals w3 a' ha hle hW hd hv K hK
          obtain ⟨d3, _⟩ := hd
          have q28 : a'.tmps[28]? = some (us 3) := slot_get ha 3 (by kernel_rfl) (by kernel_rfl)
          rw [show us 3 = .agg #[.int .i64 0, .int .i64 (k : Int)] from d3] at q28
          refine step_value (v := .slice (some ⟨w3.heap.size, 0, none⟩) 1 1) (w2 := w3.alloc (.cells #[.int .i64 0, .int .i64 (k : Int)] 44)) (by go_simp) (hK _ _ (Grow.alloc _ _) ?_)
          exact ⟨_, rfl, hle.size, Blk.new _ _ _⟩
        · refine stageOf_mem (t := 0) rfl ?_
          intro us vals w3 a' ha hle hW hd hv
          obtain ⟨d2, ⟨m4, u4, z4, b4⟩, _⟩ := hd
          obtain rfl := List.eq_nil_of_length_eq_zero (Nat.le_zero.1 (show vals.length ≤ 0 from Nat.le_of_eq hv))
          refine ⟨wanted_none rfl, fun K hK => ?_⟩
          have q27 : a'.tmps[27]? = some (us 2) := slot_get ha 2 (by kernel_rfl) (by kernel_rfl)
          rw [show us 2 = l from d2] at q27
          have q29 : a'.tmps[29]? = some (us 4) := slot_get ha 4 (by kernel_rfl) (by kernel_rfl)
          rw [u4] at q29
          have hown := own_below Hol.out hW
          refine wp_append_reads w3 (.tmp 27) (.tmp 29) rfl placeTy (evalT q27) hown (evalT q29) (readsB rfl b4) (by simp [Value.oneCell']) (by simp only [maxLen]; omega) (by omega) (Nat.le_trans Hbz.out hle.size) ?_
          intro v2 w4 ho hgr hat
          have hk := (Keep.grown hgr).mono (T := fun j => l.ownBlock = some j) fun j hj => Or.inl hj
          refine hK _ _ hk ⟨ho, (Keep.grow hW).trans' hk, fun b hb => ?_⟩
          rcases hat with h | h
          · exact Or.inl (h ▸ hb)
          · rw [h] at hb
            injection hb with hb
            exact Or.inr (hb ▸ hW.size)
      · intro us vals w4 hle hvl hV hv hf
        obtain ⟨v1, rfl⟩ := List.length_eq_one_iff.1 hvl
        obtain ⟨ho4, hk4, hb4⟩ := hV
        have e5 : us 5 = v1 := by
          have h0 : some v1 = some (us 5) := hv 0 (by simp)
          injection h0 with h0
          exact h0.symm
        have e0 : us 0 = .map (some w.heap.size) := hf 0 (by decide) rfl
        have e1 : us 1 = gv g := hf 1 (by decide) rfl
        have hpos : posOf (grams b) g (k + 1) = posOf (grams b) g k ++ [k] := by rw [posOf_succ Hgk.out, if_pos rfl]
        have hfs : firsts [] ((grams b).take (k + 1)) = firsts [] ((grams b).take k) := by
          rw [List.take_add_one, Hgk.out]
          show firsts [] (_ ++ [g]) = _
          rw [firsts_snoc, if_pos Hmem.out]
        obtain ⟨W4, hup, hM4, hk5⟩ := Hput.out w4 v1 (by
          show World.ownsRow _ _ _ _ _ (posOf (grams b) g (k + 1)).length (plC (posOf (grams b) g (k + 1)))
          rw [hpos, plC_snoc, List.length_append, ← Hpn.out]
          exact ho4) ((Keep.grow Hg3.out).trans' hk4) (fun b hb => (hb4 b hb).imp id fun h => Nat.le_trans Hg3.out.size h) (fun h hne => by
          show posOf (grams b) h (k + 1) = posOf (grams b) h k
          rw [posOf_succ Hgk.out, if_neg hne])
        rw [← hfs] at hM4
        have hk24 : Keep (fun j => j = w.heap.size ∨ l.ownBlock = some j) w2 W4 := (((Keep.grow Hg3.out).trans' hk4).mono fun j hj => Or.inl (Or.inr hj)).trans' (hk5.mono fun j hj => Or.inl (Or.inl hj))
        refine lastQ.update 46 25 26 30 rfl (u1 := us 0) (u2 := us 1) (u3 := us 5) (by kernel_rfl) (by kernel_rfl) (by kernel_rfl) (by rw [e0, e1, e5]; exact hup) ?_
        clear hf hv e0 e1 e5
        generalize Act.put _ _ _ = a4
        have hvo : ∀ j o, w2.heap[j]? = some o → (∀ cs, o ≠ .cells cs 44 (0, 0)) → ¬ l.ownBlock = some j := fun j o ho hno e => hlo j o ((Hg3.out.block _ (Array.getElem?_eq_some_iff.1 ho).1).trans ho) hno e
        have hvlp := hvo _ _ Hl2.out (fun cs q => by cases q)
        have hvD := hvo _ _ HD2.out (fun cs q => by cases q)
        have hvB := hvo _ _ (show w2.heap[W0.heap.size]? = _ from Hbx2.out) (fun cs q => by cases q)
        have hvm := hvo _ _ (show w2.heap[w.heap.size + 1]? = _ from Hmb2.out) (fun cs q => by cases q)
        have hvg := hvo _ _ (show w2.heap[w.heap.size + 2]? = _ from HG2.out) (fun cs q => by cases q)
        have hl3 : ∀ j, l.ownBlock = some j → w.heap.size + 3 ≤ j := fun j h => (Hol.out.lt j h).1
        have hlz : W4.heap[W5.heap.size + 1]? = some (.loop (rec .busy none)) := hk24.obj Hl2.out (by
          rintro (h | h)
          · omega
          · exact hvlp h)
        obtain ⟨S, hS⟩ : ∃ S : Nat → Prop, S = fun j => j = W5.heap.size + 1 ∨ j = w.heap.size ∨ l.ownBlock = some j := ⟨_, rfl⟩
        have hSof : ∀ j, (j = W5.heap.size + 1 ∨ j = w.heap.size ∨ l.ownBlock = some j) → S j := fun j h => by rw [hS]; exact h
        have hSis : ∀ j, S j → (j = W5.heap.size + 1 ∨ j = w.heap.size ∨ l.ownBlock = some j) := fun j h => by rw [hS] at h; exact h
        have hge : ∀ j, S j → w.heap.size ≤ j := fun j hj => by
          rcases hSis j hj with h | h | h
          · omega
          · omega
          · have := hl3 j h
            omega
        have hkz0 : Keep S W W4 := (Hk2.out.mono fun j hj => Or.inl (hSof j (Or.inl hj))).trans' (hk24.mono fun j hj => Or.inl (hSof j (Or.inr hj)))
        simp only [Exit.then]
        gi_wp2
        refine roundEnd.on hlz fun w' hg' hl' => ⟨rfl, ?_, ?_, ?_⟩
        all_goals have hkf : Keep S W w' := hkz0.trans' ((Keep.grown hg').mono fun j hj => Or.inl (hSof j (Or.inl (by injection hj with hj; exact hj.symm))))
        · refine HJ.out.step hkf hge hl' ?_ ?_ (hM4.keep (Keep.grown hg') (by simp; omega) (fun j cs hj e => by
            injection hj with hj
            rw [← hj, hlz] at e
            cases e)) ⟨_, hkf.blk HW.out.1 ?_, ?_⟩
          · intro h0
            rcases hSis _ h0 with h | h | h
            · omega
            · omega
            · exact hvD h
          · intro h0
            rcases hSis _ h0 with h | h | h
            · omega
            · omega
            · exact hvm h
          · intro h0
            rcases hSis _ h0 with h | h | h
            · omega
            · omega
            · exact hvg h
          · rw [hfs]
            refine hkf.own HW.out.2 fun b hb h0 => ?_
            rcases hSis _ h0 with h | h | h
            · obtain ⟨cur, q⟩ := own_obj HW.out.2 hb
              rw [h, HJ.out.loop] at q
              cases q
            · have := (HW.out.2.lt b hb).1
              omega
            · obtain ⟨cur, q⟩ := own_obj Hown2.out hb
              exact hvo _ _ q (fun cs e => by cases e) h
        · refine hkf.blk (show Blk W W0.heap.size 22 #[.slice A n c] from Hbx.out) ?_
          intro h0
          rcases hSis _ h0 with h | h | h
          · omega
          · omega
          · exact hvB h
        · exact (Hb.out.more HB.out).below (((Keep.grow (S := S) HJ.out.grow).trans' hkf).below hge (Nat.le_refl _))
    · have hlk := hMa.miss hmem
      have hnk : g ∉ (grams b).take k := fun h => hmem (mem_firsts.2 (Or.inr h))
      have hpos : posOf (grams b) g (k + 1) = [k] := by
        rw [posOf_succ Hgk.out, if_pos rfl]
        have : posOf (grams b) g k = [] := List.eq_nil_iff_forall_not_mem.2 fun i hi => by
          obtain ⟨h1, h2⟩ := mem_posOf.1 hi
          exact hnk (List.mem_of_getElem? (i := i) (by rw [List.getElem?_take_of_lt h1]; exact h2))
        rw [this]
        rfl
      have hfs : firsts [] ((grams b).take (k + 1)) = firsts [] ((grams b).take k) ++ [g] := by
        rw [List.take_add_one, Hgk.out]
        show firsts [] (_ ++ [g]) = _
        rw [firsts_snoc, if_neg hmem]
      obtain ⟨w5, hup, hM5, hk5⟩ := hMa.add (W1 := (w2.alloc (.cells #[.int .i64 0, .int .i64 (k : Int)] 44)).alloc (.cells #[.int .i64 0, .int .i64 (k : Int)] 44)) (f' := fun h => posOf (grams b) h (k + 1)) hmem (v1 := .slice (some ⟨w2.heap.size + 1, 0, none⟩) 1 1)
        (by
          show World.ownsRow _ _ _ _ _ (posOf (grams b) g (k + 1)).length (plC (posOf (grams b) g (k + 1)))
          rw [hpos]
          have := own_made (w2.alloc (.cells #[.int .i64 0, .int .i64 (k : Int)] 44)) 44 2 (w.heap.size + 3) [.int .i64 0, .int .i64 (k : Int)] rfl (by rw [Hsz3.out]; omega)
          rw [Hsz3.out] at this
          exact this) (Grow.alloc _ _) (fun b hb => by
          have hb : w2.heap.size + 1 = b := by injection hb
          rw [Hsz3.out]
          omega) (fun h hne => by
          show posOf (grams b) h (k + 1) = posOf (grams b) h k
          rw [posOf_succ Hgk.out, if_neg hne])
      have hg4 : Grow w2 ((w2.alloc (.cells #[.int .i64 0, .int .i64 (k : Int)] 44)).alloc (.cells #[.int .i64 0, .int .i64 (k : Int)] 44)) := Hg3.out.trans (Grow.alloc _ _)
      have hk25 : Keep (fun j => j = w.heap.size) w2 w5 := (Keep.grow hg4).trans' hk5
      have hG5 := hk25.blk HG2.out (by omega)
      have hgb5 := hk25.blk Hgb2.out (by omega)
      have hown5 := hk25.own Hown2.out fun b hb e => by
        have := (Hown2.out.lt b hb).1
        have e : b = w.heap.size := e
        omega
      have hz5 := hk25.size
      have Hown6 := Lib.hid (own_below hown5 (Grow.alloc w5 (.cells #[b8 g.1, b8 g.2.1, b8 g.2.2] 51)))
      have HG6 := Lib.hid (hG5.alloc (.cells #[b8 g.1, b8 g.2.1, b8 g.2.2] 51))
      have Hrd := Lib.hid (readsP w5 51 3 [b8 g.1, b8 g.2.1, b8 g.2.2] rfl)
      have hz6 : w.heap.size + 3 ≤ (w5.alloc (.cells #[b8 g.1, b8 g.2.1, b8 g.2.2] 51)).heap.size := by
        have := (Grow.alloc w5 (.cells #[b8 g.1, b8 g.2.1, b8 g.2.2] 51)).size
        omega
      have HneG := Lib.hid (show some (w.heap.size + 2) ≠ v.ownBlock from fun e => by
        have := (Hown2.out.lt _ e.symm).1
        omega)
      obtain ⟨q, hq⟩ : ∃ q, q = (firsts [] ((grams b).take k)).length := ⟨_, rfl⟩
      have hqn : q ≤ n := by
        rw [hq]
        refine Nat.le_trans (firsts_len _ _) ?_
        have h1 := List.length_take_le k (grams b)
        have h2 := (List.getElem?_eq_some_iff.1 Hgk.out).1
        have h3 := grams_len b
        have h4 := Hb.out.len
        simp only [List.length_nil]
        omega
      have Hq := Lib.hid hq
      rw [← hq] at Hown6
      clear hq
      have hcG := hG5.cell 0
      have hfG := hG5.frozen 0
      have hc1 := hgb5.cell 0
      have hc2 := hgb5.cell 1
      have hc3 := hgb5.cell 2
      rw [← hfs] at hM5
      have HM5 := Lib.hid hM5
      have Hk25 := Lib.hid hk25
      have Hfs := Lib.hid hfs
      have Hz6 := Lib.hid hz6
      have Hmem := Lib.hid hmem
      clear hMa hmem hM5 hk5 hk25 hg4 hG5 hgb5 hown5 hpos hfs hnk hz6
      unfold gv b8 at hlk hup
      unfold b8 at hc1 hc2 hc3 Hown6 HG6 Hrd Hz6
      gi_wp2_with (gi_at_builtin; go_loud (refine wpListIn_append_reads _ rfl (.tmp 35) (.tmp 37) rfl gramTy rfl Hown6.out rfl Hrd.out (by simp [Value.oneCell']) (by simp only [maxLen]; omega) (by omega) Hz6.out ?_); intro v' wq hown7 hgrow7 hat7; obtain ⟨A10, c10, rfl, -, -, -⟩ := own_reads hown7; have hG7 := HG6.out.grown hgrow7 HneG.out; have hcG7 := hG7.cell 0; have hfG7 := hG7.frozen 0; have HG7 := Lib.hid hG7; have Hown7 := Lib.hid hown7; have Hgrow7 := Lib.hid hgrow7; clear hown7 hgrow7 hat7 hG7)
      have hvo : ∀ j o, w2.heap[j]? = some o → (∀ cs, o ≠ .cells cs 51 (0, 0)) → ¬ v.ownBlock = some j := fun j o ho hno e => by
        obtain ⟨cur, q⟩ := own_obj Hown2.out e
        rw [ho] at q
        injection q with q
        exact hno _ q
      have hvlp := hvo _ _ Hl2.out (fun cs q => by cases q)
      have hvD := hvo _ _ HD2.out (fun cs q => by cases q)
      have hvB := hvo _ _ (show w2.heap[W0.heap.size]? = _ from Hbx2.out) (fun cs q => by cases q)
      have hv3 : ∀ j, v.ownBlock = some j → w.heap.size + 3 ≤ j := fun j h => (Hown2.out.lt j h).1
      have hkq : Keep (fun j => j = w.heap.size ∨ v.ownBlock = some j) w2 wq := ((Hk25.out.mono fun j hj => Or.inl (Or.inl hj)).trans' (Keep.alloc w5 _)).trans' ((Keep.grown Hgrow7.out).mono fun j hj => Or.inl (Or.inr hj))
      have hlq : wq.heap[W5.heap.size + 1]? = some (.loop (rec .busy none)) := hkq.obj Hl2.out (by
        rintro (h | h)
        · omega
        · exact hvlp h)
      have hlz : (wq.setCell ⟨w.heap.size + 1 + 1, 0, none⟩ (.slice A10 (q + 1) c10)).heap[W5.heap.size + 1]? = some (.loop (rec .busy none)) := (Keep.setCell wq ⟨w.heap.size + 1 + 1, 0, none⟩ _).obj hlq (by show ¬ (W5.heap.size + 1 = w.heap.size + 1 + 1); omega)
      have hM7 := ((HM5.out.grow (Grow.alloc w5 (.cells #[b8 g.1, b8 g.2.1, b8 g.2.2] 51))).keep (Keep.grown Hgrow7.out) (fun h => by have := hv3 _ h; omega) (fun j cs hj e => by
        obtain ⟨cur, q2⟩ := own_obj Hown6.out hj
        rw [show (w5.alloc (.cells #[b8 g.1, b8 g.2.1, b8 g.2.2] 51)).heap[j]? = _ from q2] at e
        cases e)).keep (Keep.setCell wq ⟨w.heap.size + 1 + 1, 0, none⟩ (.slice A10 (q + 1) c10)) (by show ¬ (w.heap.size = w.heap.size + 1 + 1); omega) (fun j cs hj e => by
        have hj : j = w.heap.size + 2 := hj
        rw [hj, show wq.heap[w.heap.size + 2]? = _ from HG7.out] at e
        cases e)
      obtain ⟨S, hS⟩ : ∃ S : Nat → Prop, S = fun j => j = W5.heap.size + 1 ∨ j = w.heap.size ∨ j = w.heap.size + 2 ∨ v.ownBlock = some j := ⟨_, rfl⟩
      have hSof : ∀ j, (j = W5.heap.size + 1 ∨ j = w.heap.size ∨ j = w.heap.size + 2 ∨ v.ownBlock = some j) → S j := fun j h => by rw [hS]; exact h
      have hSis : ∀ j, S j → (j = W5.heap.size + 1 ∨ j = w.heap.size ∨ j = w.heap.size + 2 ∨ v.ownBlock = some j) := fun j h => by rw [hS] at h; exact h
      have hge : ∀ j, S j → w.heap.size ≤ j := fun j hj => by
        rcases hSis j hj with h | h | h | h
        · omega
        · omega
        · omega
        · have := hv3 j h
          omega
      have hkz0 : Keep S W (wq.setCell ⟨w.heap.size + 1 + 1, 0, none⟩ (.slice A10 (q + 1) c10)) := ((Hk2.out.mono fun j hj => Or.inl (hSof j (Or.inl hj))).trans' (hkq.mono fun j hj => Or.inl (hSof j (by
        rcases hj with h | h
        · exact Or.inr (Or.inl h)
        · exact Or.inr (Or.inr (Or.inr h)))))).trans' ((Keep.setCell wq ⟨w.heap.size + 1 + 1, 0, none⟩ (.slice A10 (q + 1) c10)).mono fun j hj => Or.inl (hSof j (Or.inr (Or.inr (Or.inl hj)))))
      refine roundEnd.on hlz fun w' hg' hl' => ⟨rfl, ?_, ?_, ?_⟩
      all_goals have hkf : Keep S W w' := hkz0.trans' ((Keep.grown hg').mono fun j hj => Or.inl (hSof j (Or.inl (by injection hj with hj; exact hj.symm))))
      · refine HJ.out.step hkf hge hl' ?_ ?_ (hM7.keep (Keep.grown hg') (by simp; omega) (fun j cs hj e => by
          injection hj with hj
          rw [← hj, hlz] at e
          cases e)) ⟨_, (HG7.out.set 0 (.slice A10 (q + 1) c10)).grown hg' (by simp; omega), ?_⟩
        · intro h0
          rcases hSis _ h0 with h | h | h | h
          · omega
          · omega
          · omega
          · exact hvD h
        · intro h0
          rcases hSis _ h0 with h | h | h | h
          · omega
          · omega
          · omega
          · have := hv3 _ h
            omega
        · have hkz : Keep (fun j => j = w.heap.size + 2 ∨ j = W5.heap.size + 1) wq w' := ((Keep.setCell wq ⟨w.heap.size + 1 + 1, 0, none⟩ (.slice A10 (q + 1) c10)).mono fun j hj => Or.inl (Or.inl hj)).trans' ((Keep.grown hg').mono fun j hj => Or.inl (Or.inr (by injection hj with hj; exact hj.symm)))
          rw [Hfs.out, grC_snoc, List.length_append, ← Hq.out]
          refine hkz.own Hown7.out fun b hb e => ?_
          obtain ⟨cur, q2⟩ := own_obj Hown7.out hb
          rcases e with e | e
          · rw [e, show wq.heap[w.heap.size + 2]? = _ from HG7.out] at q2
            cases q2
          · rw [e, hlq] at q2
            cases q2
      · refine hkf.blk (show Blk W W0.heap.size 22 #[.slice A n c] from Hbx.out) ?_
        intro h0
        rcases hSis _ h0 with h | h | h | h
        · omega
        · omega
        · omega
        · exact hvB h
      · exact (Hb.out.more HB.out).below (((Keep.grow (S := S) HJ.out.grow).trans' hkf).below hge (Nat.le_refl _))
  clear hJ0 hk6 hg6 hD6 hlp6 hx5 hG6 hGw hbM hbG hM0
  rintro e W7 ⟨⟨vv, rfl⟩, hI⟩
  have hgl : n - 2 = (grams b).length := by rw [grams_len, Hb.out.len]
  rw [hgl] at hI
  obtain ⟨v, hG, hown⟩ := hI.gbox
  have hM := hI.map
  rw [List.take_of_length_le (Nat.le_refl _)] at hown hM
  have HI := Lib.hid hI
  refine ⟨vv, _, _, rfl, by simp, hI.loop, fun W8 hg8 => ?_⟩
  have hk8 : Keep (fun j => j = W5.heap.size + 1) W7 W8 := (Keep.grown hg8).mono fun j hj => by injection hj with hj; exact Or.inl hj.symm
  have hnl : ∀ j o, W7.heap[j]? = some o → (∀ cs t, o = .cells cs t (0, 0) → j ≠ W5.heap.size + 1) := fun j o ho cs t e q => by
    rw [q, hI.loop] at ho
    injection ho with ho
    rw [← ho] at e
    cases e
  have hgw := hI.grow.size
  have hM8 := hM.keep hk8 (by omega) fun j cs hj q => hnl j _ q cs _ rfl hj
  have hG8 := hk8.blk hG (by omega)
  have hmb8 := hk8.blk hI.mbox (by omega)
  have hown8 := hk8.own hown fun b hb e => by
    obtain ⟨cur, q⟩ := own_obj hown hb
    exact hnl _ _ q cur _ rfl e
  have hD8 := hk8.obj hI.defers (by omega)
  have hcG := hG8.cell 0
  have hql : (firsts [] (grams b)).length ≤ n := by
    refine Nat.le_trans (firsts_len _ _) ?_
    simp only [List.length_nil]
    omega
  have Hs := Lib.hid (Hsort.out W8 _ v _ hown8 (by omega))
  have HG8 := Lib.hid hG8
  have HM8 := Lib.hid hM8
  have Hmb8 := Lib.hid hmb8
  have Hown8 := Lib.hid hown8
  have HD8 := Lib.hid hD8
  have Hk8 := Lib.hid hk8
  clear hI hG hown hM hM8 hG8 hmb8 hown8 hD8 hnl hql hgl hg8 hk8
  gi_wp2_with (refine ⟨trivial, ?_⟩; gi_at_call 28; refine (callsIn_wide.2 Hs.out).mono ?_; rintro e w9 ⟨rfl, ho9, hk9⟩)
  have hvo : ∀ j o, W8.heap[j]? = some o → (∀ cs, o ≠ .cells cs 51 (0, 0)) → ¬ v.ownBlock = some j := fun j o ho hno e => by
    obtain ⟨cur, q⟩ := own_obj Hown8.out e
    rw [ho] at q
    injection q with q
    exact hno _ q
  have hmb9 := hk9.blk Hmb8.out (hvo _ _ Hmb8.out (fun cs q => by cases q))
  have hG9 := hk9.blk HG8.out (hvo _ _ HG8.out (fun cs q => by cases q))
  have hD9 := hk9.obj HD8.out (hvo _ _ HD8.out (fun cs q => by cases q))
  have hM9 := HM8.out.keep hk9 (fun e => by have := (Hown8.out.lt _ e).1; omega) fun j cs hj q => hvo _ _ q (fun cs e => by cases e) hj
  have hcM := hmb9.cell 0
  have hcG := hG9.cell 0
  have hge : ∀ j, v.ownBlock = some j → w.heap.size ≤ j := fun j hj => by
    have := (Hown8.out.lt _ hj).1
    omega
  have hgr9 : Grow w w9 := ((Keep.grow (S := fun j => j = W5.heap.size + 1 ∨ v.ownBlock = some j) HI.out.grow).trans' ((Hk8.out.mono fun j hj => Or.inl (Or.inl hj)).trans' (hk9.mono fun j hj => Or.inl (Or.inr hj)))).below (fun j hj => by
    rcases hj with h | h
    · omega
    · exact hge j h) (Nat.le_refl _)
  have HM9 := Lib.hid hM9
  have HD9 := Lib.hid hD9
  have Ho9 := Lib.hid ho9
  have Hgr9 := Lib.hid hgr9
  clear hvo hmb9 hG9 hD9 hM9 ho9 hk9 hge hgr9
  gi_region
  all_goals
    simp only [Exit.then]
    gi_wp2
    try rw [Exit.noGoto_ret]
    refine leaves_marks (by simp) (B := w.heap.size + 3) [W5.heap.size] _ ⟨by simp, fun m hm => by simp at hm; omega, fun m hm => by simp at hm; rw [hm]; exact HD9.out⟩ fun w1 ho => ?_
    have hkM : Keep (fun j => j = W5.heap.size) w9 w1 := (Keep.drew (S := fun j => j = W5.heap.size) w9).trans' ((Keep.only ho).mono fun j hj => Or.inl (by simpa using hj))
    refine ⟨_, results_tmp2 rfl _ _ _, v, rfl, ((Keep.grow (S := fun j => j = W5.heap.size) Hgr9.out).trans' hkM).below (fun j hj => by have hj : j = W5.heap.size := hj; omega) (Nat.le_refl _), HM9.out.keep hkM (by omega) (fun j cs hj q => by
      rw [hj, HD9.out] at q
      cases q), hkM.own Ho9.out fun b hb e => ?_⟩
    obtain ⟨cur, q⟩ := own_obj Ho9.out hb
    rw [e, HD9.out] at q
    cases q
end Go.Proofs.YtfjnjlcmikhehaaGreat
