/-
  Slices that are cut: what the cut reads as, and how it runs. No program is in sight.
-/
import Derived.Test.YtbbjeokecgnfpaaData
import Derived.Test.YtbbjeokecgnfpaaAppend
import Derived.Tactics
import Derived.Laws.Slices
import Derived.Laws.MakeOwn
import Derived.Laws.BitsAllLaws
import Derived.Laws.BitsLemmas
import Derived.Test.YtbbjeokecgnfpaaFactKit
namespace Go.Proofs.Ytbbjeokecgnfpaa
open Go.RowKit

/-- where a slice lies that is cut behind its first k elements -/
def cutA (A : Option Addr) (c k s : Nat) : Option Addr := if c = k then A else A.map (·.add (k * s))

section
variable {w : World} {B n c s : Nat} {A : Option Addr} {xs : List Value}
theorem ReadsAt.head (h : ReadsAt w B s A n xs) (k : Nat) (hk : k ≤ n) : ReadsAt w B s A k (xs.take (k * s)) := by
  refine ⟨by rw [List.length_take, h.1, Nat.min_eq_left (Nat.mul_le_mul_right _ hk)], fun hp => ?_⟩
  obtain ⟨b, off, e, hb, hc⟩ := h.2 (by omega)
  refine ⟨b, off, e, hb, fun j u hu => hc j u ?_⟩
  rw [List.getElem?_take] at hu
  split at hu
  · exact hu
  · cases hu
theorem ReadsAt.tail (h : ReadsAt w B s A n xs) (k : Nat) (hk : k ≤ n) (hnc : n ≤ c) : ReadsAt w B s (cutA A c k s) (n - k) (xs.drop (k * s)) := by
  refine ⟨by rw [List.length_drop, h.1, Nat.sub_mul], fun hp => ?_⟩
  obtain ⟨b, off, e, hb, hc⟩ := h.2 (by omega)
  subst e
  have hck : ¬ c = k := by omega
  refine ⟨b, off + k * s, ?_, hb, fun j u hu => ?_⟩
  · rw [cutA, if_neg hck]
    unfold Addr.add
    by_cases h0 : k * s = 0 <;> simp [h0]
  · rw [List.getElem?_drop] at hu
    have := hc _ u hu
    rwa [← Nat.add_assoc] at this
theorem BytesAt.head {l : List UInt8} (h : BytesAt w B A n l) (k : Nat) (hk : k ≤ n) : BytesAt w B A k (l.take k) := by
  have := ReadsAt.head h k hk
  rw [Nat.mul_one, ← List.map_take] at this
  exact this
theorem BytesAt.tail {l : List UInt8} (h : BytesAt w B A n l) (k : Nat) (hk : k ≤ n) (hnc : n ≤ c) : BytesAt w B (cutA A c k 1) (n - k) (l.drop k) := by
  have := ReadsAt.tail h k hk hnc
  rw [Nat.mul_one, ← List.map_drop] at this
  exact this
end

section
variable {P : Program} {w : World} {t e : TypeId} {z : Value} {size bytes : Nat}
theorem run_cut_head (T : AppTy P t e z size bytes) (A : Option Addr) (n c k : Nat) (kd : IntKind) (i : Int) (hi : i = (k : Int)) (hk : k ≤ c) (w : World) : (Instr.slice t (.slice A n c) none (some (.int kd i)) none).run P w = .ok (.slice A k c) w := by
  obtain ⟨inf, h1, _, hs, _⟩ := T.info
  subst hi
  have h0 : (0 : Int) ≤ (k : Int) := by omega
  simp [Instr.slice, Instr.sliceBounds, Instr.sliceBound, asIntOf, run_underlying T.ht, sizeOf, typeInfo, h1, h0, hk, Sem.run_bind, Sem.run_pure, Result.andThen]
  intro _
  cases A with
  | none => rfl
  | some a => simp [Addr.add]
theorem run_cut_tail (T : AppTy P t e z size bytes) (A : Option Addr) (n c k : Nat) (kd : IntKind) (i : Int) (hi : i = (k : Int)) (hk : k ≤ n) (w : World) : (Instr.slice t (.slice A n c) (some (.int kd i)) none none).run P w = .ok (.slice (cutA A c k size) (n - k) (c - k)) w := by
  obtain ⟨inf, h1, _, hs, _⟩ := T.info
  subst hi
  have h0 : (0 : Int) ≤ (k : Int) := by omega
  simp [Instr.slice, Instr.sliceBounds, Instr.sliceBound, asIntOf, run_underlying T.ht, sizeOf, typeInfo, h1, hs, h0, hk, Sem.run_bind, Sem.run_pure, Result.andThen, cutA]
theorem run_cut_mid (T : AppTy P t e z size bytes) (A : Option Addr) (n c lo hi : Nat) (kd kd2 : IntKind) (i j : Int) (h1 : i = (lo : Int)) (h2 : j = (hi : Int)) (hl : lo ≤ hi) (hc : hi ≤ c) (w : World) : (Instr.slice t (.slice A n c) (some (.int kd i)) (some (.int kd2 j)) none).run P w = .ok (.slice (cutA A c lo size) (hi - lo) (c - lo)) w := by
  obtain ⟨inf, h3, _, hs, _⟩ := T.info
  subst h1 h2
  have h0 : (0 : Int) ≤ (lo : Int) := by omega
  have h4 : (0 : Int) ≤ (hi : Int) := by omega
  simp [Instr.slice, Instr.sliceBounds, Instr.sliceBound, asIntOf, run_underlying T.ht, sizeOf, typeInfo, h3, hs, h0, h4, hl, hc, Sem.run_bind, Sem.run_pure, Result.andThen, cutA]
end

section
variable {P : Program} {t e : TypeId} {z : Value} {size bytes : Nat} {o : Oper} {a' : Act} {w1 : World} {K : Act → World → Prop} {Q : Exit → Act → World → Prop}
theorem eval_tmp {a : Act} {s : Nat} {v : Value} (h : a.tmps[s]? = some v) : a.eval (.tmp s) = v := by
  simp [Act.eval, Array.getD_eq_getD_getElem?, h]
theorem run_at (T : AppTy P t e z size bytes) (x : Value) (lo hi mx : Option Value) (w : World) : (Instr.sliceAt t x lo hi mx).run P w = (Instr.slice t x lo hi mx).run P w := by
  unfold Instr.sliceAt
  simp [run_underlying T.ht]
theorem step_cut_head (T : AppTy P t e z size bytes) {s h : Nat} (ho : o.op = .slice t (.tmp s) none (some (.tmp h)) none) {A : Option Addr} {n c : Nat} {kd : IntKind} {i : Int} (q1 : a'.tmps[s]? = some (.slice A n c)) (q2 : a'.tmps[h]? = some (.int kd i)) (k : Nat) (hi : i = (k : Int)) (hk : k ≤ c)
    (hK : K (a'.put o.dst (.slice A k c)) w1) : o.wp P a' w1 K Q := by
  refine step_value (v := .slice A k c) (w2 := w1) ?_ hK
  simp only [execOp, ho, Option.map_some, Option.map_none, eval_tmp q1, eval_tmp q2, Sem.run_bind, run_at T, run_cut_head T A n c k kd i hi hk, Result.andThen_ok, Sem.run_pure]
theorem step_cut_tail (T : AppTy P t e z size bytes) {s h : Nat} (ho : o.op = .slice t (.tmp s) (some (.tmp h)) none none) {A : Option Addr} {n c : Nat} {kd : IntKind} {i : Int} (q1 : a'.tmps[s]? = some (.slice A n c)) (q2 : a'.tmps[h]? = some (.int kd i)) (k : Nat) (hi : i = (k : Int)) (hk : k ≤ n)
    (hK : K (a'.put o.dst (.slice (cutA A c k size) (n - k) (c - k))) w1) : o.wp P a' w1 K Q := by
  refine step_value (v := .slice (cutA A c k size) (n - k) (c - k)) (w2 := w1) ?_ hK
  simp only [execOp, ho, Option.map_some, Option.map_none, eval_tmp q1, eval_tmp q2, Sem.run_bind, run_at T, run_cut_tail T A n c k kd i hi hk, Result.andThen_ok, Sem.run_pure]
theorem step_cut_mid (T : AppTy P t e z size bytes) {s h : Nat} {x : Operand} (ho : o.op = .slice t (.tmp s) (some x) (some (.tmp h)) none) {A : Option Addr} {n c : Nat} {kd kd2 : IntKind} {i j : Int} (q1 : a'.tmps[s]? = some (.slice A n c)) (q2 : a'.eval x = .int kd i) (q3 : a'.tmps[h]? = some (.int kd2 j)) (lo hi : Nat) (h1 : i = (lo : Int)) (h2 : j = (hi : Int)) (hl : lo ≤ hi) (hc : hi ≤ c)
    (hK : K (a'.put o.dst (.slice (cutA A c lo size) (hi - lo) (c - lo))) w1) : o.wp P a' w1 K Q := by
  refine step_value (v := .slice (cutA A c lo size) (hi - lo) (c - lo)) (w2 := w1) ?_ hK
  simp only [execOp, ho, Option.map_some, Option.map_none, eval_tmp q1, q2, eval_tmp q3, Sem.run_bind, run_at T, run_cut_mid T A n c lo hi kd kd2 i j h1 h2 hl hc, Result.andThen_ok, Sem.run_pure]
end

/-- rows of slices, told one by one -/
def RowsOk (w : World) : List (Option Addr × Nat × Nat) → List (List UInt8) → Prop
  | [], [] => True
  | v :: vs, l :: ls => (v.2.1 ≤ v.2.2 ∧ v.2.2 ≤ maxLen ∧ BytesAt w w.heap.size v.1 v.2.1 l) ∧ RowsOk w vs ls
  | _, _ => False
def sliceOf (v : Option Addr × Nat × Nat) : Value := .slice v.1 v.2.1 v.2.2
theorem RowsOk.get {w : World} : ∀ {vs : List (Option Addr × Nat × Nat)} {ls : List (List UInt8)}, RowsOk w vs ls → vs.length = ls.length ∧ ∀ (j : Nat) (l : List UInt8), ls[j]? = some l → ∃ v, vs[j]? = some v ∧ v.2.1 ≤ v.2.2 ∧ v.2.2 ≤ maxLen ∧ BytesAt w w.heap.size v.1 v.2.1 l
  | [], [], _ => ⟨rfl, fun j l h => by simp at h⟩
  | [], _ :: _, h => h.elim
  | _ :: _, [], h => h.elim
  | v :: vs, l :: ls, h => by
    obtain ⟨h1, h2⟩ := RowsOk.get h.2
    refine ⟨by simp [h1], fun j l' hl => ?_⟩
    cases j with
    | zero =>
      obtain rfl : l = l' := by simpa using hl
      exact ⟨v, rfl, h.1⟩
    | succ j => exact h2 j l' (by simpa using hl)
/-- a row of slices that was just made -/
theorem RowsAt.made (w : World) (t : Nat) (vs : List (Option Addr × Nat × Nat)) (ls : List (List UInt8)) (h : RowsOk w vs ls) :
    RowsAt (w.alloc (.cells (vs.map sliceOf).toArray t)) (w.heap.size + 1) (some ⟨w.heap.size, 0, none⟩) ls.length ls := by
  obtain ⟨h1, h2⟩ := h.get
  refine ⟨rfl, fun _ => ⟨w.heap.size, 0, rfl, by omega, fun j l hl => ?_⟩⟩
  obtain ⟨v, hv, q1, q2, q3⟩ := h2 j l hl
  refine ⟨v.1, v.2.1, v.2.2, ?_, q1, q2, (q3.below (Below.alloc (Below.refl _ _) (Nat.le_refl _) _)).more (by omega)⟩
  rw [(Blk.new w t _).cell, Nat.zero_add]
  simp [hv, sliceOf]

/-- 'make([]T, n)', one cell an element -/
theorem run_make_cells {P : Program} {t e : TypeId} {z : Value} {bytes : Nat} (T : AppTy P t e z 1 bytes) (hz1 : z.cells = #[z]) (kl kc : IntKind) (n : Nat) (hb : bytes * n ≤ 281474976710656) (h63 : n ≤ 9223372036854775807) (w : World) :
    (Instr.makeSlice t (.int kl (n : Int)) (.int kc (n : Int))).run P w = .ok (.slice (some ⟨w.heap.size, 0, none⟩) n n) (w.alloc (.cells (List.replicate n z).toArray e)) := by
  obtain ⟨i, hi, hz, hs, hby⟩ := T.info
  have hb' : (i.bytes : Int) * (n : Int) ≤ 281474976710656 := by
    rw [hby]
    have h : ((bytes * n : Nat) : Int) ≤ 281474976710656 := by omega
    rwa [Int.natCast_mul] at h
  have hr := run_make (P := P) w t e i z T.ht hi hz kl kc (n : Int) (n : Int) (by omega) (by omega) hb' (by omega)
  have e1 : madeCells z.cells (n * i.size) = (List.replicate n z).toArray := by
    rw [hs, Nat.mul_one, hz1, ← toList_madeCells_one z n]
  rw [hr]
  simp only [Int.toNat_natCast, e1]
theorem xor_u32 (a b : BitVec 32) : bits BinOp.xor IntKind.u32 (a.toNat : Int) (b.toNat : Int) = ((a ^^^ b).toNat : Int) := by
  rw [BitVec.toNat_xor]
  exact u32_xor_nat _ _ a.isLt b.isLt
theorem xor_u8 (a b : UInt8) : bits BinOp.xor IntKind.u8 (a.toNat : Int) (b.toNat : Int) = ((a ^^^ b).toNat : Int) := by
  rw [UInt8.toNat_xor]
  exact u8_xor_nat _ _ a.toNat_lt b.toNat_lt
/-- a row of bytes that was just made -/
theorem BytesAt.made (w : World) (t : Nat) (l : List UInt8) : BytesAt (w.alloc (.cells (l.map b8).toArray t)) (w.heap.size + 1) (some ⟨w.heap.size, 0, none⟩) l.length l := by
  have := ReadsAt.made w t (l.map b8)
  rw [List.length_map] at this
  exact this
theorem not_u8 (x : UInt8) : bits BinOp.xor IntKind.u8 IntKind.u8.max (x.toNat : Int) = ((255 ^^^ x : UInt8).toNat : Int) := by
  have h : IntKind.u8.max = (((255 : UInt8)).toNat : Int) := by decide
  rw [h]
  exact xor_u8 255 x
theorem wrap_u32 (x : Int) (h0 : 0 ≤ x) (h1 : x < 4294967296) : IntKind.u32.wrap x = x := by
  have e2 : IntKind.u32.wrap x = x % 4294967296 := by simp [IntKind.wrap, IntKind.bits, IntKind.signed]
  rw [e2]
  exact Int.emod_eq_of_lt h0 h1
theorem wrap_u8 (x : Int) (h0 : 0 ≤ x) (h1 : x < 256) : IntKind.u8.wrap x = x := by
  have e2 : IntKind.u8.wrap x = x % 256 := by simp [IntKind.wrap, IntKind.bits, IntKind.signed]
  rw [e2]
  exact Int.emod_eq_of_lt h0 h1
end Go.Proofs.Ytbbjeokecgnfpaa
