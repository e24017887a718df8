/-
  The walk of crc.made: the table of what 0 becomes by each byte.
-/
import Derived.Test.YtbbjeokecgnfpaaGreatProg
import Derived.WalkKit
import Derived.Test.YtbbjeokecgnfpaaGreatMarks
import Derived.Test.YtbbjeokecgnfpaaGreatBaseA
import Derived.Test.YtbbjeokecgnfpaaGreatCrcWalk1
import Derived.Test.YtbbjeokecgnfpaaGreatBaseD
namespace Go.Proofs.YtbbjeokecgnfpaaGreat
open Go.RowKit Go.Shelf CrcM
attribute [local go_sem] Oper.semAt_some


set_option maxHeartbeats 1000000 in
/-- what holds between two rounds: the k-th place of the table has taken j bits -/
structure MadeInv (w : World) (B l D bi k : Nat) (b : UInt8) (ms : List Nat) (rec : LoopState → Option Code → Loop) (z j : Nat) (W : World) : Prop where
  loop : W.heap[l]? = some (.loop (rec .ready none))
  defers : W.heap[D]? = some (.deferred (some []))
  index : Boxed W bi 3 (.int .i64 (k : Int))
  table : ∃ cs', Blk W B 108 cs' ∧ cs'.size = 256 ∧ ∀ i, i < 256 → cs'[i]? = some (.int .u32 ((if i = k then run 0#32 ((bitsOf b).take j) else if i < k then tab i else 0#32).toNat : Int))
  marks : Marks (B + 1) ms W
  below : Below B w W
  size : z ≤ W.heap.size

/-- one bit more -/
theorem MadeInv.step {w W w2 w' : World} {B l D bi bb k : Nat} {b : UInt8} {ms : List Nat} {rec : LoopState → Option Code → Loop} {z j : Nat} {v : Value} (h : MadeInv w B l D bi k b ms rec z j W) (hbox : Boxed W bb 5 v)
    (hg2 : W.grownBy w2 (some l)) (hg' : ((w2.setCell ⟨B, k, none⟩ (.int .u32 ((bitS (run 0#32 ((bitsOf b).take j)) (b.toNat.testBit j)).toNat : Int))).drew).grownBy w' (some l))
    (hl' : w'.heap[l]? = some (.loop (rec .ready none))) (hj : j < 8) (hk : k < 256) (h1 : B < bi) (h2 : B < bb) (h3 : bi < D) (h4 : bb < D) (h5 : D < l) (hms : ∀ m ∈ ms, m < bi) :
    MadeInv w B l D bi k b ms rec z (j + 1) w' ∧ Boxed w' bb 5 v := by
  obtain ⟨cs', ht, hsz, hcs⟩ := h.table
  have hlt := (Array.getElem?_eq_some_iff.1 h.loop).1
  have hz2 := hg2.size
  have keep : ∀ g, g ≠ B → g ≠ l → g < W.heap.size → w'.heap[g]? = W.heap[g]? := fun g hgB hgl hgW => by
    rw [hg'.block g (by show g < (w2.setCell _ _).heap.size; rw [size_setCell]; omega) (by simp; omega)]
    show (w2.setCell _ _).heap[g]? = _
    rw [heap_setCell_ne w2 hgB, hg2.block g hgW (by simp; omega)]
  have ht2 : Blk w2 B 108 cs' := ht.grown hg2 (by simp; omega)
  have ht3 : Blk w' B 108 (cs'.setIfInBounds k (.int .u32 ((bitS (run 0#32 ((bitsOf b).take j)) (b.toNat.testBit j)).toNat : Int))) :=
    Blk.grown (w := (w2.setCell ⟨B, k, none⟩ _).drew) (ht2.set k _) hg' (by simp; omega)
  refine ⟨⟨hl', ?_, ?_, ⟨_, ht3, by simpa using hsz, fun i hi => ?_⟩, h.marks.keep (fun m hm => keep m (by have := h.marks.ge m hm; omega) (by have := hms m hm; omega) (h.marks.lt hm)), ?_, ?_⟩, ?_⟩
  · rw [keep D (by omega) (by omega) (Array.getElem?_eq_some_iff.1 h.defers).1]; exact h.defers
  · exact (keep bi (by omega) (by omega) h.index.lt).trans h.index
  · by_cases e : i = k
    · subst e
      rw [if_pos rfl, run_take_succ b j hj]
      simp [hsz, hi]
    · rw [if_neg e, Array.getElem?_setIfInBounds_ne (Ne.symm e), hcs i hi, if_neg e]
  · have hBz := ht2.lt
    exact ((h.below.trans (below_grown1 hg2 (by have := ht.lt; omega) (by omega))).setCell (p := ⟨B, k, none⟩) (Nat.le_refl B) _).drew.trans
      (below_grown1 hg' (by show B ≤ (w2.setCell _ _).heap.size; rw [size_setCell]; omega) (by omega))
  · have h6 := hg'.size
    have e : (w2.setCell ⟨B, k, none⟩ (.int .u32 ((bitS (run 0#32 ((bitsOf b).take j)) (b.toNat.testBit j)).toNat : Int))).drew.heap.size = w2.heap.size := size_setCell _ _ _
    rw [e] at h6
    have := h.size
    omega
  · exact (keep bb (by omega) (by omega) hbox.lt).trans hbox

/-- the table as a value -/
def tabV : Array Value := (Array.range 256).map fun i => .int .u32 ((tab i).toNat : Int)
theorem tabV_size : tabV.size = 256 := by simp [tabV]
theorem tabV_get (i : Nat) (h : i < 256) : tabV[i]? = some (.int .u32 ((tab i).toNat : Int)) := by simp [tabV, h]
theorem tabV_eq {cs : Array Value} (hz : cs.size = 256) (h : ∀ i, i < 256 → cs[i]? = some (.int .u32 ((tab i).toNat : Int))) : cs = tabV := by
  apply Array.ext_getElem?
  intro i
  by_cases hi : i < 256
  · rw [h i hi, tabV_get i hi]
  · rw [Array.getElem?_eq_none (by omega), Array.getElem?_eq_none (by rw [tabV_size]; omega)]
theorem tabV_one : tabV.all (·.oneCell') = true := by
  rw [Array.all_eq_true_iff_forall_mem]
  intro v hv
  obtain ⟨i, _, rfl⟩ := Array.mem_map.1 hv
  rfl

/-- what holds at the head of the outer loop -/
structure MadeOut (w : World) (k : Nat) (ms : List Nat) (wr : World) : Prop where
  table : ∃ cs, Blk wr w.heap.size 108 cs ∧ cs.size = 256 ∧ ∀ i, i < 256 → cs[i]? = some (.int .u32 ((if i < k then tab i else 0#32).toNat : Int))
  marks : Marks (w.heap.size + 1) ms wr
  below : Below w.heap.size w wr

theorem zero_table : Tryz.zeroCells108.size = 256 ∧ ∀ i, i < 256 → Tryz.zeroCells108[i]? = some (.int .u32 0) := by
  have h : Tryz.zeroCells108 = Array.replicate 256 (.int .u32 0) := by kernel_rfl
  rw [h]
  exact ⟨by simp, fun i hi => by simp [hi]⟩

theorem MadeOut.next {w W W3 : World} {l D bi k z : Nat} {b : UInt8} {ms : List Nat} {rec : LoopState → Option Code → Loop} (h : MadeInv w w.heap.size l D bi k b ms rec z 8 W) (hb : b.toNat = k)
    (hg : W.grownBy W3 (some l)) (hD : w.heap.size < D) (hDl : D < l) (hms : ∀ m ∈ ms, m < D) : MadeOut w (k + 1) (D :: ms) W3 := by
  obtain ⟨cs, ht, hz, hcs⟩ := h.table
  refine ⟨⟨cs, ht.grown hg (by simp; omega), hz, fun i hi => ?_⟩, ⟨List.nodup_cons.2 ⟨fun hin => by have := hms D hin; omega, h.marks.nodup⟩, fun m hm => ?_, fun m hm => ?_⟩, h.below.trans (below_grown1 hg h.below.size (by omega))⟩
  · rw [hcs i hi]
    by_cases e : i = k
    · have e8 : (bitsOf b).take 8 = bitsOf b := List.take_of_length_le (by rw [bitsOf_length]; omega)
      rw [if_pos e, if_pos (by omega), e8, e, tab, takeB, ← hb, UInt8.ofNat_toNat]
    · rw [if_neg e]
      by_cases e2 : i < k
      · rw [if_pos e2, if_pos (by omega)]
      · rw [if_neg e2, if_neg (by omega)]
  · rcases List.mem_cons.1 hm with rfl | hm
    · omega
    · exact h.marks.ge m hm
  · rcases List.mem_cons.1 hm with rfl | hm
    · rw [hg.block _ (Array.getElem?_eq_some_iff.1 h.defers).1 (by simp; omega)]; exact h.defers
    · rw [hg.block _ (h.marks.lt hm) (by have := hms m hm; simp; omega)]; exact h.marks.opened m hm

set_option maxRecDepth 100000 in
set_option maxHeartbeats 1600000 in
theorem made_any (w : World) : Calls Tryz.prog 50 #[] w fun e w' => e = .returned (.agg tabV) ∧ Below w.heap.size w w' := by
  refine (callsIn_wide (n := 4)).1 ?_
  refine callsIn_of_wp_marks Tryz.func50 rfl trivial ?_ rfl
  simp only [Tryz.ntmps50, List.size_toArray, List.length_nil, Nat.reduceSub, Array.replicate_succ, Array.replicate_zero, List.push_toArray, List.append_toArray, List.nil_append, List.cons_append]
  gi_wp2
  refine wpIn_loop (fun a' wr => ∃ (k : Nat) (ms : List Nat) (v1 v2 v4 v5 v6 v7 v8 v9 v10 v11 v12 v13 v14 v15 v16 v17 : Value), k ≤ 256 ∧
      a' = { tmps := #[.pointer (some ⟨w.heap.size, 0, none⟩), v1, v2, .int .i64 (k : Int), v4, v5, v6, v7, v8, v9, v10, v11, v12, v13, v14, v15, v16, v17, undef], defers := ms.map markOf } ∧
      MadeOut w k ms wr)
    (fun a' _ => 256 - (intOf (a'.tmps.getD 3 undef)).toNat) ?start ?round
  case start =>
    refine ⟨0, [], undef, undef, undef, undef, undef, undef, undef, undef, undef, undef, undef, undef, undef, undef, undef, undef, by omega, rfl, ⟨_, Blk.new _ _ _, zero_table.1, fun i hi => ?_⟩, Marks.nil _ _, (Below.refl _ _).alloc (Nat.le_refl _) _⟩
    rw [zero_table.2 i hi]
    rfl
  case round =>
    rintro a' wr ⟨k, ms, v1, v2, v4, v5, v6, v7, v8, v9, v10, v11, v12, v13, v14, v15, v16, v17, hk, rfl, hO⟩
    have hlt : w.heap.size < wr.heap.size := by obtain ⟨cs, ht, _⟩ := hO.table; exact ht.lt
    have hm := hO.marks
    have hbel := hO.below
    by_cases hkl : k < 256
    · gi_wp2_with (refine ⟨trivial, ?_⟩; gi_at_call 88; refine (callsIn_wide.2 (bits_any k _)).mono ?_; rintro e w' ⟨rfl, rfl⟩)
      obtain ⟨W0, hW0⟩ : ∃ W0, (wr.alloc (.cells #[.int .i64 (k : Int)] 3)).alloc (.cells #[.int .u8 (k : Int)] 5) = W0 := ⟨_, rfl⟩
      have hz0 : wr.heap.size + 2 ≤ W0.heap.size := by rw [← hW0]; simp
      have hbi0 : Boxed W0 wr.heap.size 3 (.int .i64 (k : Int)) := by rw [← hW0]; exact (Boxed.new _ _ _).alloc _
      have hbb0 : Boxed W0 (wr.heap.size + 1) 5 (.int .u8 (k : Int)) := by rw [← hW0]; have := Boxed.new (wr.alloc (.cells #[.int .i64 (k : Int)] 3)) 5 (.int .u8 (k : Int)); simpa using this
      have hk0 : ∀ j, j < wr.heap.size → W0.heap[j]? = wr.heap[j]? := fun j hj => by rw [← hW0, Below.heap_alloc _ _ _ (by simp; omega), Below.heap_alloc _ _ _ hj]
      have hbel0 : Below w.heap.size w W0 := by rw [← hW0]; exact (hbel.alloc (by omega) _).alloc (by simp; omega) _
      rw [hW0]
      clear hW0
      obtain ⟨b, Hb⟩ : ∃ b : UInt8, Hid (b.toNat = k) := ⟨UInt8.ofNat k, Lib.hid (by rw [UInt8.toNat_ofNat', Nat.mod_eq_of_lt hkl])⟩
      refine rangeJ rfl (by omega) (gf := 116) (lb := #[.pointer (some ⟨wr.heap.size + 1, 0, none⟩)]) rfl trivial (enters_of Tryz.func116 (by kernel_rfl) rfl) ?_
      intro fn rec W1 _ hrec hg1 hz1 hD1 hl1
      refine (bits1_any Fence.wide 3 trivial rfl (by omega) (W0.heap.size + 1) (wr.heap.size + 1) b
        (MadeInv w w.heap.size (W0.heap.size + 1) W0.heap.size wr.heap.size k b ms rec W1.heap.size)
        ?stab ?rounds W1 ?box ?start).mono ?_
      case stab =>
        rintro j W u ⟨h1, h2, h3, ⟨cs', h4, h5, h6⟩, h7, h8, h9⟩
        refine ⟨(heap_setCell_ne W (by omega) _ _).trans h1, (heap_setCell_ne W (by omega) _ _).trans h2, (Blk.far h3 (by simp) _), ⟨cs', h4.far (by simp; omega) _, h5, h6⟩, h7.keep (fun m hm' => heap_setCell_ne W (by have := hm.lt hm'; omega) _ _), h8.setCell (by simp; omega) _, by rw [size_setCell]; exact h9⟩
      case box => rw [Hb.out]; exact Blk.grown hbb0 hg1 (by simp)
      case start =>
        obtain ⟨cs, hT, hsz, hcs⟩ := hO.table
        have hg0 : ∀ g, g < wr.heap.size → W1.heap[g]? = wr.heap[g]? := fun g hg => (hg1.block g (by omega) (by simp)).trans (hk0 g hg)
        refine ⟨hl1, hD1, Blk.grown hbi0 hg1 (by simp), ⟨cs, hT.kept (hg0 _ hlt), hsz, fun i hi => ?_⟩, hm.keep (fun m hm' => hg0 m (hm.lt hm')), hbel0.trans (below_grown hg1 (by omega) (by simp)), Nat.le_refl _⟩
        rw [hcs i hi]
        by_cases e : i = k
        · subst e; simp [run]
        · rw [if_neg e]
      case rounds =>
        rintro j W hj ⟨h1, h2, h3, ⟨cs', h4, h5, h6⟩, h7, h8, h9⟩ hbox
        refine yieldJ trivial hrec h1 rfl ?_
        gi_wp2
        refine roundBody.mk h1 fun w2 hg2 hl2 => ?_
        have hci : w2.cell? ⟨wr.heap.size, 0, none⟩ = some (.int .i64 (k : Int)) := (h3.kept hg2 (by simp; omega)).cell
        have h42 : Blk w2 w.heap.size 108 cs' := h4.grown hg2 (by simp; omega)
        have hct : w2.cell? ⟨w.heap.size, k, none⟩ = some (.int .u32 ((run 0#32 ((bitsOf b).take j)).toNat : Int)) := by rw [h42.cell, h6 k hkl, if_pos rfl]
        have hft : w2.frozen? ⟨w.heap.size, k, none⟩ = false := h42.frozen _
        have hmx : Tryz.prog.follows .mixedOrders = true := by kernel_rfl
        have H6 := Lib.hid h6
        clear h6
        gi_wp2
        gi_region_with_o (refine ⟨trivial, ?_⟩; gi_at_call 89; refine (CallsIn.inRound _ (callsIn_wide.2 (Bit_any _ _ _))).mono ?_; rintro e w' ⟨rfl, rfl⟩)
        all_goals gi_wp2
        all_goals
          refine roundEnd.on ((heap_setCell_ne w2 (by omega) _ _).trans hl2) fun w' hg' hl' => ⟨rfl, ?_⟩
          exact MadeInv.step ⟨h1, h2, h3, ⟨cs', h4, h5, H6.out⟩, h7, h8, h9⟩ hbox hg2 hg' hl' hj hkl (by omega) (by omega) (by omega) (by omega) (by omega) (fun m hm' => hm.lt hm')
      rintro e W2 ⟨⟨v, rfl⟩, hI⟩
      refine ⟨v, .ready, none, rfl, by simp, hI.loop, fun W3 hg3 => ?_⟩
      have hN : MadeOut w (k + 1) (W0.heap.size :: ms) W3 := MadeOut.next hI Hb.out hg3 (by omega) (by omega) (fun m hm' => by have := hm.lt hm'; omega)
      gi_wp2
      exact ⟨⟨k + 1, W0.heap.size :: ms, _, _, _, _, _, _, _, _, _, _, _, _, _, _, _, _, by omega, rfl, hN⟩, by simp [intOf]; omega⟩
    · obtain rfl : k = 256 := by omega
      obtain ⟨cs, ht, hz, hcs⟩ := hO.table
      obtain rfl : cs = tabV := tabV_eq hz (fun i hi => by rw [hcs i hi, if_pos hi])
      have hi : (Tryz.prog.info? 108).map (·.size) = some tabV.size := by rw [tabV_size]; kernel_rfl
      clear hcs hz
      gi_wp2_with (first | (refine wpListIn_load_row rfl 108 _ rfl w.heap.size rfl 108 tabV (0, 0) _ ht Tryz.underlying108 rfl hi ?_) | (refine wpListIn_store_row rfl 108 _ _ rfl w.heap.size tabV rfl rfl 108 tabV ht hi rfl tabV_one ?_))
      have ht2 := ht.setRow tabV
      refine leaves_marks (by simp) (B := w.heap.size + 1) ms _ (hm.keep fun m hm' => setRow_other _ _ _ _ (by have := hm.ge m hm'; omega)) fun w' ho => ?_
      have ht3 : Blk w' w.heap.size 108 tabV := (ho.block _ (fun hin => by have := hm.ge _ hin; omega)).trans ht2
      exact ⟨_, results_cell_row rfl _ _ _ _ _ _ _ rfl ht3 Tryz.underlying108 rfl hi, rfl, (below_setRow1 hbel (Nat.le_refl _) _).trans (ho.below fun m hm' => by have := hm.ge m hm'; omega)⟩
end Go.Proofs.YtbbjeokecgnfpaaGreat
