/-
  The walk of mudlarkref01.Table; that arrays of integers are equal to themselves.
-/
import Derived.ChangeKeysEq
import Derived.Test.YtcjbeaohmgfgoaaRef01
namespace Go.Proofs.Ytcjbeaohmgfgoaa
open Go.RowKit CrcM

theorem run_eqItems_self {P : Program} {e : TypeId} {k : IntKind} (he : P.underlying e = some (.int k)) (d : Nat) (xs : Array Value) (w : World) : ∀ (is : List Nat), (∀ i ∈ is, ∃ n, xs[i]? = some (.int k n)) →
    (Op.eqItems (d + 1) e 1 xs xs is).run P w = .ok true w
  | [], _ => by simp [Op.eqItems]
  | i :: is, h => by
    obtain ⟨n, hn⟩ := h i (by simp)
    have hp : (part e xs i).run P w = .ok (.int k n) w := run_part_plain w (by simp [Program.plainKey, he]) hn
    have ih := run_eqItems_self he d xs w is (fun j hj => h j (by simp [hj]))
    simp [Op.eqItems, hp, run_equalIn_int w d e k k n n he, ih]
theorem run_neq_row {P : Program} {t e : TypeId} {len : Nat} {k : IntKind} (hu : P.underlying t = some (.array len e)) (he : P.underlying e = some (.int k)) (hc : P.cellsOf e = 1) (hi : (P.info? e).isSome = true)
    (xs : Array Value) (h : ∀ i, i < len → ∃ n, xs[i]? = some (.int k n)) (w : World) : (binOp .neq t (.agg xs) (.agg xs)).run P w = .ok (.bool false) w := by
  obtain ⟨i, hi⟩ := Option.isSome_iff_exists.1 hi
  rw [run_neq_struct, run_equalIn_array w 9999 xs xs hu hi, hc, run_eqItems_self he 9998 xs w _ (fun j hj => h j (List.mem_range.1 hj))]
  rfl
theorem rtake_zero (s' : W32) (b : UInt8) (x : Int) (w : World) (hx : x = (b.toNat : Int)) (h : s' = takeB 0#32 b) : Calls Try.prog 49 #[.int .u32 0, .int .u8 x] w fun e w' => e = .returned (.int .u32 (s'.toNat : Int)) ∧ w = w' := by
  rw [hx]
  exact rtake_at 0#32 s' b w h

/-- what holds at the head of the loop -/
structure RTab (w : World) (k : Nat) (wr : World) : Prop where
  slot : Blk wr w.heap.size 36 Try.zeroCells36
  table : ∃ cs, Blk wr (w.heap.size + 1) 36 cs ∧ cs.size = 256 ∧ ∀ i, i < 256 → cs[i]? = some (.int .u32 ((if i < k then tab i else 0#32).toNat : Int))
  below : Below w.heap.size w wr
theorem zero_arr : Try.zeroCells36.size = 256 ∧ ∀ i, i < 256 → Try.zeroCells36[i]? = some (.int .u32 0) := by
  have h : Try.zeroCells36 = Array.replicate 256 (.int .u32 0) := by kernel_rfl
  rw [h]
  exact ⟨by simp, fun i hi => by simp [hi]⟩

set_option maxRecDepth 100000 in
set_option maxHeartbeats 1000000 in
theorem rTable_any (w : World) : Calls Try.prog 22 #[] w fun e w' => e = .returned (.agg tabV) ∧ Below w.heap.size w w' := by
  have hi : (Try.prog.info? 36).map (·.size) = some tabV.size := by rw [tabV_size]; kernel_rfl
  go_enter Try.func22, Try.ntmps22
  go_wp2
  go_loopw [2] (fun v2 wr => ∃ k : Nat, k ≤ 256 ∧ v2 = .int .i64 (k : Int) ∧ RTab w k wr) (fun v2 _ => 256 - (intOf v2).toNat)
  case atStart =>
    refine ⟨0, by omega, rfl, (Blk.new _ _ _).alloc _, ⟨_, ?_, zero_arr.1, fun i hi => by rw [zero_arr.2 i hi]; rfl⟩, ((Below.refl _ _).alloc (Nat.le_refl _) _).alloc (by simp) _⟩
    have := Blk.new (w.alloc (.cells Try.zeroCells36 36)) 36 Try.zeroCells36
    rwa [World.size_alloc] at this
  case round =>
    obtain ⟨k, hk, rfl, hT⟩ := hrel
    by_cases hlt : k < 256
    · obtain ⟨cs, hb, hsz, hcs⟩ := hT.table
      obtain ⟨S, hS⟩ : ∃ S, S = takeB 0#32 (UInt8.ofNat k) := ⟨_, rfl⟩
      have hx : (k : Int) = ((UInt8.ofNat k).toNat : Int) := by rw [UInt8.toNat_ofNat', Nat.mod_eq_of_lt hlt]
      have hck : (wr.cell? ⟨w.heap.size + 1, k, none⟩) = some (.int .u32 0) := by rw [hb.cell, hcs k hlt, if_neg (by omega)]; rfl
      have hfk := hb.frozen k
      have HS := Lib.hid hS
      have Hx := Lib.hid hx
      have Hcs := Lib.hid hcs
      have hbs := hT.below.size
      clear hS hx hcs
      go_wp2_with fail
      refine (rtake_zero S (UInt8.ofNat k) _ _ Hx.out HS.out).mono ?_
      rintro e w' ⟨rfl, rfl⟩
      go_wp2
      go_roundw
      case rel =>
        refine ⟨k + 1, by omega, by go_num, hT.slot.far (by simp) _, ⟨_, hb.set k _, by simpa using hsz, fun i hi => ?_⟩, hT.below.setCell (p := ⟨w.heap.size + 1, k, none⟩) (by simp) _⟩
        by_cases e : i = k
        · subst e
          rw [if_pos (by omega), HS.out]
          simp [hsz, hi, tab]
        · rw [Array.getElem?_setIfInBounds_ne (Ne.symm e), Hcs.out i hi]
          have : (i < k + 1) = (i < k) := by simp only [eq_iff_iff]; omega
          simp only [this]
      case measure => simp [intOf]; omega
    · obtain rfl : k = 256 := by omega
      obtain ⟨cs, hb, hsz, hcs⟩ := hT.table
      obtain rfl : cs = tabV := tabV_eq hsz (fun i hi => by rw [hcs i hi, if_pos hi])
      have hz : Try.zeroCells36.size = tabV.size := by rw [tabV_size]; exact zero_arr.1
      have hs := hT.slot
      clear hcs
      go_wp2_with (first | (refine wpList_load_row rfl 36 _ rfl (w.heap.size + 1) rfl 36 tabV (0, 0) _ hb Try.underlying36 rfl hi ?_) | (refine wpList_store_row rfl 36 _ _ rfl w.heap.size tabV rfl rfl 36 Try.zeroCells36 hs hi hz tabV_one ?_))
      exact bodyPost_ret (results_cell_row rfl _ _ _ _ _ _ _ rfl (hs.setRow tabV) Try.underlying36 rfl hi) rfl ⟨rfl, below_setRow1 hT.below (Nat.le_refl _) _⟩
end Go.Proofs.Ytcjbeaohmgfgoaa
