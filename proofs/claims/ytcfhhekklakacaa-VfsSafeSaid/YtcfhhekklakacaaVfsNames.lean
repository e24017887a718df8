/-
  The walks of a disk's names: the closure that goes through the files by their names.
-/
import Derived.Test.YtcfhhekklakacaaVfsUndo
import Derived.Test.YtcfhhekklakacaaVfsIter
namespace Go.Proofs.Ytcfhhekklakacaa
open Go.RowKit Go.Shelf
set_option linter.unusedVariables false
theorem key_file {w : World} {mb n : Nat} {M : FM} {D : DataW Unit} (hown : w.ownsMap Try.prog 9 Rf mb n D) (hD : ∀ l : List UInt8, M l = none → Maps.has D (.string l) = false) {x : List UInt8} (hx : x ∈ strKeys D) : (∃ id, M x = some id) ∧ x.length ≤ maxLen := by
  refine ⟨?_, strKeys_le hown Try.underlying9 x hx⟩
  obtain ⟨es, rfl, hk⟩ := hown.keysOf
  have hh : Maps.has (.map es) (.string x) = true := by
    obtain ⟨p, hp, e⟩ := List.mem_map.1 hx
    rw [Maps.has_eq, List.any_eq_true]
    refine ⟨p, hp, ?_⟩
    obtain ⟨key, hkey⟩ := hk p hp
    obtain ⟨y, -, e2, -⟩ := Maps.keyOf_str Try.underlying9 hkey
    rw [e2] at e ⊢
    have e : y = x := e
    subst e
    exact WideAt.sameKey_self trivial
  cases hM : M x with
  | some id => exact ⟨id, rfl⟩
  | none =>
    rw [hD x hM] at hh
    cases hh
theorem file_key {w : World} {mb n : Nat} {D : DataW Unit} (hown : w.ownsMap Try.prog 9 Rf mb n D) {l : List UInt8} (hh : Maps.has D (.string l) = true) : l ∈ strKeys D := by
  obtain ⟨es, rfl, hk⟩ := hown.keysOf
  rw [Maps.has_eq, List.any_eq_true] at hh
  obtain ⟨p, hp, e⟩ := hh
  obtain ⟨key, hkey⟩ := hk p hp
  obtain ⟨y, -, e2, -⟩ := Maps.keyOf_str Try.underlying9 hkey
  rw [e2, lit_ne, decide_eq_true_eq] at e
  subst e
  exact List.mem_map.2 ⟨p, hp, by rw [e2]; rfl⟩
theorem FMapAt.look1 {w : World} {mb n : Nat} {M : FM} (h : FMapAt w mb n M) (s : ByteArray) (hs : s.size ≤ maxLen) {id : Nat} (hM : M s.data.toList = some id) :
    (Instr.lookup 46 (.map (some mb)) (.string s) false).run Try.prog w = .ok (pg id) w := by
  obtain ⟨D, h1, h2⟩ := h
  obtain ⟨v, ps, hrun, hv⟩ := h1.lookup str_law Try.underlying46 (file_zero w) (show Rf (.pointer none) = some (.lit (.int .i64 (-1)), []) from rfl) (str_key s hs)
  rw [hrun]
  obtain ⟨h3, h4⟩ := (h2 s.data.toList).1 id hM
  rw [h4] at hv
  rcases Rf_inv hv with ⟨b, rfl, e⟩ | ⟨-, e⟩
  · simp only [Prod.mk.injEq, DataW.lit.injEq, Lit.int.injEq, true_and] at e
    obtain rfl : id = b := by omega
    rfl
  · exfalso
    simp only [Prod.mk.injEq, DataW.lit.injEq, Lit.int.injEq, true_and] at e
    omega
theorem own_typeKeep {W W' : World} {base t n : Nat} {v : Value} {xs : List Value} (h : W.ownsRow base t 1 v n xs) (hk : ∀ k cs, Blk W k t cs → Blk W' k t cs) : W'.ownsRow base t 1 v n xs := by
  obtain ⟨h1, h2⟩ := h
  refine ⟨h1, ?_⟩
  rcases h2 with h2 | ⟨g, cap, cur, e, hb, hg, h3⟩
  · exact Or.inl h2
  · exact Or.inr ⟨g, cap, cur, e, hb, hk g cur hg, h3⟩
theorem vnames_any (g : Nat) (w : World) : Calls Try.prog 37 #[pg g] w fun e w' => e = .returned (.func (.func 45) #[] #[.pointer (some ⟨w.heap.size, 0, none⟩)]) ∧ w.alloc (.cells #[pg g] 25) = w' := by
  go_enter Try.func37, Try.ntmps37
  go_wp2
  go_ret
  exact ⟨rfl, rfl⟩
set_option maxRecDepth 100000 in
set_option maxHeartbeats 4000000 in
theorem vnames1_any (m : Nat) (hm : 1 ≤ m) (lp Bx g mb nn : Nat) (M : FM) (hnn : nn ≤ 1000000000) (J : Nat → World → Prop)
    (hJ : ∀ i W, J i W → W.cell? ⟨Bx, 0, none⟩ = some (pg g) ∧ W.cell? ⟨g, 1, none⟩ = some (.map (some mb)) ∧ FMapAt W mb nn M) (hG : ∀ i W W', J i W → Grow W W' → J i W')
    (hY : ∀ (i : Nat) (name : ByteArray) (id : Nat) (W : World), M name.data.toList = some id → name.size ≤ maxLen → J i W →
      YieldAt Fence.wide (m - 1) Try.prog lp #[.string name, pg id] W fun e W' => e = .returned (.bool true) ∧ J (i + 1) W' ∧ W.heap.size ≤ W'.heap.size ∧ ∀ k cs, Blk W k 9 cs → Blk W' k 9 cs)
    (W : World) (h0 : J 0 W) :
    CallsIn Fence.wide m Try.prog 45 #[.func (.yield lp) #[] #[], .pointer (some ⟨Bx, 0, none⟩)] W fun e W' => (∃ v, e = .returned v) ∧ ∃ i, J i W' ∧ ∀ l id, M l = some id → 0 < i := by
  refine callsIn_of_wp Try.func45 rfl trivial ?_ rfl
  simp only [Try.ntmps45, List.size_toArray, List.length_cons, List.length_nil, Nat.reduceAdd, Nat.reduceSub, Array.replicate_succ, Array.replicate_zero, List.push_toArray, List.append_toArray, List.nil_append, List.cons_append]
  obtain ⟨hc0, hc1, hfm⟩ := hJ 0 W h0
  obtain ⟨D, hown, hD⟩ := hfm
  have HJ := Lib.hid hJ
  have HG := Lib.hid hG
  have HY := Lib.hid hY
  have H0 := Lib.hid h0
  have Hkeys := Lib.hid (fun (x : List UInt8) (hx : x ∈ strKeys D) => key_file (M := M) hown (fun l hl => (hD l).2 hl) hx)
  have Hmem := Lib.hid (fun (l : List UInt8) (id : Nat) (h : M l = some id) => file_key hown ((hD l).1 id h).1)
  have hsz := hown.size_le
  have Hown := Lib.hid hown
  clear hJ hG hY h0 hown hD
  have hfK : Fence.wide.fn 47 := trivial
  have hfS : Fence.wide.fn 46 := trivial
  refine wpIn_wide.2 (wp_scope_straight ((wpIn_wide (n := m)).1 ?_))
  gi_wp2_with fail
  refine wpIn_label ?_
  gi_wp2_with (first
    | (gi_at_call 47; refine CallsIn.mono (callsIn_wide.2 (callsIn_wide.1 (Try.maps_Keys_47 _ _))) ?_; rintro e w' ⟨rfl, rfl⟩)
    | (gi_at_call 46; refine CallsIn.mono (callsIn_wide.2 (callsIn_wide.1 (Try.slices_Sorted_keys_46_47 mb nn D Rf W Hown.out (by simp only [maxLen]; omega) (by omega)))) ?_; rintro e w' ⟨v, ss, rfl, hS, hrow, hnil, hb⟩; obtain ⟨A1, c1, rfl, hnc1, hcm1, -⟩ := own_reads hrow))
  have HS := Lib.hid hS
  obtain ⟨n1, hn1⟩ : ∃ n1, n1 = ss.length := ⟨_, rfl⟩
  obtain ⟨L, hL⟩ : ∃ L, L = ss.mergeSort (fun x y => decide (x ≤ y)) := ⟨_, rfl⟩
  have HL := Lib.hid hL
  have Hn1 := Lib.hid hn1
  obtain ⟨base9, hbase9⟩ : ∃ base9, base9 = (W.alloc (.cells #[.map (some mb)] 46)).heap.size := ⟨_, rfl⟩
  rw [← hn1] at hnc1
  rw [← hn1, ← hL, ← hbase9] at hrow
  rw [← hn1]
  have Hrow := Lib.hid hrow
  have H1 := Lib.hid (HG.out 0 W w' H0.out ((Grow.alloc _ _).trans (hb.mono (by simp) |> fun h => (Below.refl _ _).trans h)))
  clear hS hrow hnil hb hn1 hL hbase9 hc0 hc1 H0
  gi_wp2_with fail
  gi_loopw [4, 12] (fun v4 v12 wr => ∃ i : Nat, i ≤ n1 ∧ v12 = .int .i64 (i : Int) ∧ Hid (J i wr) ∧ Hid (wr.ownsRow base9 9 1 (.slice A1 n1 c1) n1 (L.map encStr))) (fun v4 v12 wr => n1 - (intOf v12).toNat)
  case atStart => exact ⟨0, by omega, rfl, H1, Hrow⟩
  case round =>
    obtain ⟨i, hi, rfl, hj, ho⟩ := hrel
    by_cases hlt : i < n1
    · have hLlen : L.length = n1 := by rw [HL.out, List.length_mergeSort, Hn1.out]
      obtain ⟨x, hx⟩ : ∃ x, L[i]? = some x := ⟨_, List.getElem?_eq_getElem (by omega)⟩
      have hxk : x ∈ strKeys D := HS.out.mem_iff.1 (by
        have h := List.mem_of_getElem? hx
        rw [HL.out] at h
        exact (List.mergeSort_perm _ _).mem_iff.1 h)
      obtain ⟨⟨id, hid⟩, hxl⟩ := Hkeys.out x hxk
      obtain ⟨name, hname⟩ : ∃ name : ByteArray, name = ⟨x.toArray⟩ := ⟨_, rfl⟩
      have hnx : name.data.toList = x := by rw [hname]
      have hns : name.size ≤ maxLen := by
        rw [hname]
        show x.toArray.size ≤ maxLen
        simpa using hxl
      rw [← hnx] at hid
      obtain ⟨fn, tmps, assign, body, hy, hR⟩ := HY.out i name id wr hid hns hj.out
      obtain ⟨h3, h4, h5⟩ := HJ.out i wr hj.out
      have hlk := h5.look1 name hns hid
      obtain ⟨g1, cap1, e1, -, -, hc1, -⟩ := own_slice ho.out (by omega)
      injection e1 with e1 e2 e3
      subst e1 e3
      have hcx : wr.cell? ⟨g1, i, none⟩ = some (.string name) := own_cell ho.out (by
        rw [List.getElem?_map, hx]
        show some (encStr x) = _
        rw [hname])
      have hJlt := Lib.hid hlt
      have hib : i + 1 ≤ 9223372036854775807 := by
        have := hcm1
        unfold maxLen at this
        omega
      clear h5 hx hxk hid hxl hname hnx
      gi_wp2_with fail
      refine hR.mono ?_
      rintro e w3 ⟨rfl, hj3, -, hk3⟩
      have Hj3 := Lib.hid hj3
      have Ho3 := Lib.hid (own_typeKeep ho.out hk3)
      clear hR hy hj3 hk3 h3 h4 hlk hcx
      gi_wp2_with fail
      go_roundw
      case rel => exact ⟨i + 1, by have := hJlt.out; omega, by go_num, Hj3, Ho3⟩
      case measure =>
        have := hJlt.out
        simp only [intOf]
        omega
    · have hin : i = n1 := by omega
      subst hin
      have Hfin := Lib.hid hj.out
      clear hj
      gi_wp2_with fail
      unfold Exit.noGoto
      go_end0
      refine ⟨⟨_, rfl⟩, _, Hfin.out, fun l id hl => Nat.pos_of_ne_zero fun e => ?_⟩
      have h := HS.out.mem_iff.2 (Hmem.out l id hl)
      rw [List.eq_nil_of_length_eq_zero (Hn1.out.symm.trans e)] at h
      cases h
end Go.Proofs.Ytcfhhekklakacaa
