/-
  The walks of near's Find, and of what it calls: slices.IndexFunc, slices.Clone.
-/
import Derived.Lib.SliceRun
import Derived.Lib.Strings
import Derived.Test.YtamdejidkgnaeaaNearSearch
import Derived.Test.YtamdejidkgnaeaaBaseB
namespace Go.Proofs.Ytamdejidkgnaeaa
open Go.RowKit NearM
set_option linter.unusedVariables false
/-- two cells are a posting -/
def PostCells (w : World) (B : Nat) (cs : List Value) (p : ByteArray × List Pl) : Prop :=
  ∃ A n c, cs = [.string p.1, .slice A n c] ∧ n ≤ c ∧ c ≤ maxLen ∧ PlsAt w B A n p.2
def PostsAt (w : World) (B : Nat) (A : Option Addr) (n : Nat) (ps : List (ByteArray × List Pl)) : Prop := SliceBy w B 2 A n (PostCells w B) ps
section
variable {w w' : World} {B n : Nat} {A : Option Addr} {ps : List (ByteArray × List Pl)}
theorem PostsAt.below (h : PostsAt w B A n ps) (hb : Below B w w') : PostsAt w' B A n ps := SliceBy.keep h (fun _ hp => hb.cell hp) fun cs p ⟨A, n, c, h1, h2, h3, h4⟩ => ⟨A, n, c, h1, h2, h3, h4.below hb⟩
theorem PostsAt.grow (h : PostsAt w B A n ps) (hg : Grow w w') (hB : B ≤ w.heap.size) : PostsAt w' B A n ps := h.below (Below.mono hg hB)
theorem PostsAt.at_ (h : PostsAt w B A n ps) {k : Nat} {p : ByteArray × List Pl} (hk : ps[k]? = some p) : ∃ b off A' n' c', A = some ⟨b, off, none⟩ ∧ b < B ∧ w.cell? ⟨b, off + k * 2, none⟩ = some (.string p.1) ∧ w.cell? ⟨b, off + k * 2 + 1, none⟩ = some (.slice A' n' c') ∧ n' ≤ c' ∧ c' ≤ maxLen ∧ PlsAt w B A' n' p.2 := by
  obtain ⟨b, off, e, hb, hc⟩ := h.2 (by have h1 := (List.getElem?_eq_some_iff.1 hk).1; have h2 := h.1; omega)
  obtain ⟨cs, -, ⟨A', n', c', rfl, h1, h2, h3⟩, hcs⟩ := hc k p hk
  exact ⟨b, off, A', n', c', e, hb, hcs 0 _ rfl, hcs 1 _ rfl, h1, h2, h3⟩
end
theorem str_inj {a b : ByteArray} (h : a.toList = b.toList) : a = b := by
  rw [Lib.toList_data, Lib.toList_data] at h
  cases a
  cases b
  simp only [ByteArray.mk.injEq]
  exact Array.toList_inj.1 h
theorem str_eq (a : ByteArray) : (a.toList == a.toList) = true := by simp
theorem str_ne {a b : ByteArray} (h : a ≠ b) : (a.toList == b.toList) = false := by
  rw [beq_eq_false_iff_ne]
  exact fun e => h (str_inj e)
theorem nFind1_any (w : World) (bx : Nat) (s t : ByteArray) (A : Option Addr) (n c : Nat) (hb : Blk w bx 9 #[.string s]) : Calls Try.prog 29 #[.agg #[.string t, .slice A n c], .pointer (some ⟨bx, 0, none⟩)] w fun e w' => e = .returned (.bool (t.toList == s.toList)) ∧ Grow w w' := by
  obtain ⟨w1, hw1⟩ : ∃ w1, w.alloc (.cells #[.string t, .slice A n c] 46) = w1 := ⟨_, rfl⟩
  have hg1 : Grow w w1 := by rw [← hw1]; exact Grow.alloc _ _
  have hbx : Blk w1 w.heap.size 46 #[.string t, .slice A n c] := by rw [← hw1]; exact Blk.new _ _ _
  have hc0 := hbx.cell 0
  have hc1 := (hb.below hg1 hb.lt).cell 0
  have Hg1 := Lib.hid hg1
  clear hbx hb hg1
  go_enter Try.func29, Try.ntmps29
  go_wp2_with fail
  go_ret
  exact ⟨rfl, Hg1.out⟩
set_option maxRecDepth 100000 in
set_option maxHeartbeats 1000000 in
theorem nIndex_any (w : World) (B bx : Nat) (s : ByteArray) (A : Option Addr) (n c : Nat) (ps : List (ByteArray × List Pl)) (h : PostsAt w B A n ps) (hB : B ≤ w.heap.size) (hn : n ≤ 140737488355328) (hb : Blk w bx 9 #[.string s]) :
    Calls Try.prog 28 #[.slice A n c, .func (.func 29) #[] #[.pointer (some ⟨bx, 0, none⟩)]] w fun e w' => ∃ i : Int, e = .returned (.int .i64 i) ∧ ((i = -1 ∧ ∀ p ∈ ps, p.1 ≠ s) ∨ ∃ (k : Nat) (p : ByteArray × List Pl), i = (k : Int) ∧ ps[k]? = some p ∧ p.1 = s) ∧ Grow w w' := by
  have Hlen := Lib.hid h.1
  have HR := Lib.hid (show ∀ W, Grow w W → PostsAt W B A n ps from fun W hg => h.grow hg hB)
  have Hb := Lib.hid (show ∀ W, Grow w W → Blk W bx 9 #[.string s] from fun W hg => hb.below hg hb.lt)
  clear h hb
  go_enter Try.func28, Try.ntmps28
  go_wp2
  go_loopw [5, 8] (fun v5 v8 wr => ∃ k : Nat, k ≤ n ∧ v8 = .int .i64 (k : Int) ∧ Hid (∀ j p, j < k → ps[j]? = some p → p.1 ≠ s) ∧ Hid (Grow w wr)) (fun _ v8 _ => n - (intOf v8).toNat)
  case atStart => exact ⟨0, by omega, rfl, Lib.hid (fun j p hj => by omega), Lib.hid (Grow.refl _)⟩
  case round =>
    obtain ⟨k, hk, rfl, hno, hg⟩ := hrel
    by_cases hlt : k < n
    · have d1 : decide ((k : Int) < (n : Int)) = true := decide_eq_true (by omega)
      obtain ⟨p, hp⟩ : ∃ p, ps[k]? = some p := ⟨_, List.getElem?_eq_getElem (by rw [Hlen.out]; exact hlt)⟩
      obtain ⟨b, off, A1, n1, c1, rfl, hbB, hc0, hc1, -, -, -⟩ := (HR.out wr hg.out).at_ hp
      have Hrg := Lib.hid (place_range hc0 hc1)
      have Hf := Lib.hid (nFind1_any wr bx s p.1 A1 n1 c1 (Hb.out wr hg.out))
      have Hp := Lib.hid hp
      clear hp hc0 hc1
      go_wp2_with (refine wpList_load_mid rfl 46 (.tmp 14) rfl b (off + k * 2) rfl _ _ Hrg.out Try.underlying46 rfl (by kernel_rfl) ?_)
      refine Hf.out.mono ?_
      rintro e w2 ⟨rfl, hg2⟩
      have Hg2 := Lib.hid (hg.out.trans hg2)
      clear hg2
      by_cases e : p.1 = s
      · have hq : (p.1.toList == s.toList) = true := by rw [e]; exact str_eq s
        have Hq := Lib.hid e
        clear e
        go_wp2_with fail
        go_ret
        exact ⟨(k : Int), rfl, Or.inr ⟨k, p, rfl, Hp.out, Hq.out⟩, Hg2.out⟩
      · have hq : (p.1.toList == s.toList) = false := str_ne e
        have Hq := Lib.hid e
        clear e
        go_wp2_with fail
        go_roundw
        case rel => exact ⟨k + 1, by omega, by go_num, Lib.hid (fun j q hj hq2 => by
          by_cases ej : j = k
          · subst ej
            have h1 := Hp.out
            rw [h1] at hq2
            injection hq2 with hq2
            rw [← hq2]
            exact Hq.out
          · exact hno.out j q (by omega) hq2), Hg2⟩
        case measure => simp [intOf]; omega
    · have d1 : decide ((k : Int) < (n : Int)) = false := decide_eq_false (by omega)
      obtain rfl : k = n := by omega
      go_wp2_with fail
      go_ret
      exact ⟨-1, rfl, Or.inl ⟨rfl, fun p hp => by
        obtain ⟨j, hj⟩ := List.getElem?_of_mem hp
        exact hno.out j p (by have := (List.getElem?_eq_some_iff.1 hj).1; have := Hlen.out; omega) hj⟩, hg.out⟩
theorem plCs_one (l : List Pl) : ∀ u ∈ plCs l, u.oneCell' = true := fun u hu => by
  obtain ⟨p, -, h⟩ := List.mem_flatMap.1 hu
  simp only [List.mem_cons, List.not_mem_nil, or_false] at h
  rcases h with rfl | rfl <;> rfl
set_option maxRecDepth 100000 in
set_option maxHeartbeats 1000000 in
theorem nClone_any (w : World) (B : Nat) (A : Option Addr) (n c : Nat) (l : List Pl) (h : PlsAt w B A n l) (hB : B ≤ w.heap.size) (hn : n ≤ 1000000000) :
    Calls Try.prog 30 #[.slice A n c] w fun e w' => ∃ v, e = .returned v ∧ w'.ownsRow w.heap.size 33 2 v l.length (plCs l) ∧ Grow w w' := by
  have placeTy : AppTy Try.prog 30 33 (.agg #[.int .i64 0, .int .i64 0]) 2 16 := AppTy.mk' Try.underlying30 (by kernel_rfl) rfl (by decide)
  have hlen := h.1
  have hR := h.2
  have heq := fun W a n c => Lib.run_eql_slice_nil (P := Try.prog) W 30 33 a n c 0 0 Try.underlying30
  cases A with
  | none =>
    have hn0 : n = 0 := by
      rcases Nat.eq_zero_or_pos n with h | h
      · exact h
      · obtain ⟨b, off, h1, _⟩ := hR.2 h
        cases h1
    subst hn0
    obtain rfl := List.eq_nil_of_length_eq_zero hlen
    clear hR h
    go_enter Try.func30, Try.ntmps30
    go_wp2
    go_ret
    exact ⟨_, rfl, World.ownsRow_nil _ _ _ _, Grow.refl _⟩
  | some p =>
    clear h
    go_enter Try.func30, Try.ntmps30
    go_wp2_with (at_builtin; refine wpList_append_reads _ rfl (.tmp 5) (.tmp 6) rfl placeTy (v := .slice (some ⟨w.heap.size, 0, none⟩) 0 0) rfl (World.ownsRow_made w #[] 0 (Nat.le_refl _) (by decide) rfl) rfl ((hR.more hB).below (Grow.alloc _ _)) (plCs_one l) (by simp only [maxLen]; omega) (by omega) (by simp) ?_; intro v' w2 hown hgrow hat)
    go_ret
    exact ⟨_, rfl, by rw [hlen]; simpa using hown, ((Below.refl w.heap.size w).alloc (Nat.le_refl _) _).grown hgrow (by simp) (fun k hk => by simp [Value.ownBlock] at hk; omega)⟩
/-- the places of a text -/
def findP (ps : List (ByteArray × List Pl)) (s : ByteArray) : List Pl := match ps.find? fun p => p.1 = s with
  | some p => p.2
  | none => []
theorem findP_none {ps : List (ByteArray × List Pl)} {s : ByteArray} (h : ∀ p ∈ ps, p.1 ≠ s) : findP ps s = [] := by
  unfold findP
  rw [List.find?_eq_none.2 fun p hp => by simpa using h p hp]
theorem findP_some {ps : List (ByteArray × List Pl)} {s : ByteArray} (hn : (ps.map (·.1)).Nodup) {p : ByteArray × List Pl} (hp : p ∈ ps) (hs : p.1 = s) : findP ps s = p.2 := by
  unfold findP
  cases hf : ps.find? fun p => p.1 = s with
  | none =>
    rw [List.find?_eq_none] at hf
    exact absurd hs (by simpa using hf p hp)
  | some q =>
    have h1 := List.mem_of_find?_eq_some hf
    have h2 : q.1 = s := by simpa using List.find?_some hf
    have e : q = p := by
      obtain ⟨i, hi⟩ := List.getElem?_of_mem h1
      obtain ⟨j, hj⟩ := List.getElem?_of_mem hp
      have hij : i = j := by
        have a1 : (ps.map (·.1))[i]? = some s := by rw [List.getElem?_map, hi, Option.map_some, h2]
        have a2 : (ps.map (·.1))[j]? = some s := by rw [List.getElem?_map, hj, Option.map_some, hs]
        exact (List.getElem?_inj (List.getElem?_eq_some_iff.1 a1).1 hn).1 (a1.trans a2.symm)
      rw [hij, hj] at hi
      injection hi with hi
      exact hi.symm
    rw [e]
set_option maxRecDepth 100000 in
set_option maxHeartbeats 1000000 in
theorem nFind_any (w : World) (B : Nat) (s : ByteArray) (A : Option Addr) (n c : Nat) (ps : List (ByteArray × List Pl)) (h : PostsAt w B A n ps) (hB : B ≤ w.heap.size) (hn : n ≤ 1000000000) (hd : (ps.map (·.1)).Nodup) (hl : ∀ p ∈ ps, p.2.length ≤ 1000000000) :
    Calls Try.prog 16 #[.slice A n c, .string s] w fun e w' => ∃ v, e = .returned v ∧ w'.ownsRow w.heap.size 33 2 v (findP ps s).length (plCs (findP ps s)) ∧ Grow w w' := by
  obtain ⟨w1, hw1⟩ : ∃ w1, w.alloc (.cells #[.string s] 9) = w1 := ⟨_, rfl⟩
  have hg1 : Grow w w1 := by rw [← hw1]; exact Grow.alloc _ _
  have hbx : Blk w1 w.heap.size 9 #[.string s] := by rw [← hw1]; exact Blk.new _ _ _
  have Hix := Lib.hid (nIndex_any w1 B w.heap.size s A n c ps (h.grow hg1 hB) (Nat.le_trans hB hg1.size) (by omega) hbx)
  have HR := Lib.hid (show ∀ W, Grow w1 W → PostsAt W B A n ps from fun W hg => (h.grow hg1 hB).grow hg (Nat.le_trans hB hg1.size))
  have Hlen := Lib.hid h.1
  have Hg1 := Lib.hid hg1
  have Hd := Lib.hid hd
  have Hl := Lib.hid hl
  clear hbx h hg1 hd hl
  go_enter Try.func16, Try.ntmps16
  go_wp2_with fail
  refine Hix.out.mono ?_
  rintro e w2 ⟨i, rfl, hi, hg2⟩
  have Hg2 := Lib.hid hg2
  clear hg2 Hix
  rcases hi with ⟨rfl, hno⟩ | ⟨k, p, rfl, hk, hp⟩
  · have Hno := Lib.hid (findP_none hno)
    clear hno
    go_wp2_with fail
    go_ret
    exact ⟨_, rfl, by rw [Hno.out]; exact World.ownsRow_nil _ _ _ _, Hg1.out.trans Hg2.out⟩
  · have Hfp := Lib.hid (findP_some Hd.out (List.mem_of_getElem? hk) hp)
    have hkn : k < n := by have := (List.getElem?_eq_some_iff.1 hk).1; have := Hlen.out; omega
    obtain ⟨b, off, A', n', c', rfl, hbB, hc0, hc1, -, -, hpl⟩ := (HR.out w2 Hg2.out).at_ hk
    have hpn : n' ≤ 1000000000 := by rw [← hpl.1]; exact Hl.out p (List.mem_of_getElem? hk)
    have Hcl := Lib.hid (nClone_any w2 B A' n' c' p.2 hpl (Nat.le_trans hB (Hg1.out.trans Hg2.out).size) hpn)
    have d1 : decide (0 ≤ (k : Int)) = true := decide_eq_true (by omega)
    have d2 : decide ((k : Int) < (n : Int)) = true := decide_eq_true (by omega)
    clear hk hpl hc0 hp
    go_wp2_with fail
    refine Hcl.out.mono ?_
    rintro e w3 ⟨v, rfl, ho, hg3⟩
    have Ho := Lib.hid ho
    have Hg3 := Lib.hid hg3
    clear ho hg3
    go_wp2_with fail
    go_ret
    have hgt := Hg1.out.trans Hg2.out
    exact ⟨v, rfl, by rw [Hfp.out]; exact own_base Ho.out hgt.size, hgt.trans Hg3.out⟩
end Go.Proofs.Ytamdejidkgnaeaa
