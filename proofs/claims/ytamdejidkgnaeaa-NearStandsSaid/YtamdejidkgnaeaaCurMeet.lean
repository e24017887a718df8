/-
  The walks of cursor's meet, join and less: over cursors whose own moves are known.
-/
import Derived.ScopeJumps
import Derived.Deep.LoopGhost
import Derived.Test.YtamdejidkgnaeaaCurLeaf
namespace Go.Proofs.Ytamdejidkgnaeaa
open Go.RowKit CurM
set_option linter.unusedVariables false

/-- what Now tells of a cursor, and what becomes of it -/
def NowTo (d : Nat) (w : World) (v : Value) (L : List Int) (F : Nat → Prop) (e : Ending) (w' : World) : Prop := e = .returned (.tuple #[.int .i64 (L.headD 0), .bool (!L.isEmpty)]) ∧ CurTo d w v L F w'
/-- what a move makes of a cursor -/
def MovTo (d : Nat) (w : World) (v : Value) (L' : List Int) (F : Nat → Prop) (e : Ending) (w' : World) : Prop := e = .returned (.tuple #[]) ∧ CurTo d w v L' F w'
structure CurOk (d : Nat) : Prop where
  now : ∀ (w : World) (v : Value) (L : List Int) (F : Nat → Prop), Cur d w v L F → Calls Try.prog 45 #[v] w (NowTo d w v L F)
  seek : ∀ (w : World) (v : Value) (L : List Int) (F : Nat → Prop) (x : Int), Cur d w v L F → W64 x → Calls Try.prog 66 #[v, .int .i64 x] w (MovTo d w v (seek x L) F)

/-- a scope in which the run jumps back to one label: each pass lowers a number -/
theorem wp_scope_ghost {P : Program} {a : Act} {w : World} {Q : Exit → Act → World → Prop} {c rest : Code} (l : Nat) (J : Nat → Act → World → Prop) (hf : findLabel c l = some (Code.skip.seq rest))
    (pass : ∀ k a w, J k a w → rest.wp P (Exit.jump l (fun a' w' => ∃ k', k' < k ∧ J k' a' w') Q) a w)
    (first : Hid (∀ k a w, J k a w → rest.wp P (Exit.jump l (fun a w => ∃ k, J k a w) Q) a w) → c.wp P (Exit.jump l (fun a w => ∃ k, J k a w) Q) a w) : (Code.scope c).wp P Q a w := by
  have pass0 : ∀ k a w, J k a w → (Code.skip.seq rest).wp P (Exit.jump l (fun a' w' => ∃ k', k' < k ∧ J k' a' w') Q) a w := fun k a w h => wp_seq (wp_skip (pass k a w h))
  refine wp_scope_jumps l (fun a w => ∃ k, J k a w) (fun a w => leastOf (fun k => J k a w)) hf (first fun k a w h => ?_) fun a w h => ?_
  · refine wp_mono (pass k a w h) ?_
    intro e a' w' hq
    cases e with
    | goto l' => exact ⟨hq.1, hq.2.choose, hq.2.choose_spec.2⟩
    | normal => exact hq
    | exit id => exact hq
    | ret => exact hq
    | panic ch => exact hq
    | outgrown => exact hq
  · refine wp_mono (pass0 _ a w (leastOf_spec h).1) ?_
    intro e a' w' hq
    cases e with
    | goto l' =>
      obtain ⟨h1, k', h2, h3⟩ := hq
      exact ⟨h1, ⟨k', h3⟩, Nat.lt_of_le_of_lt ((leastOf_spec ⟨k', h3⟩).2 k' h3) h2⟩
    | normal => exact hq
    | exit id => exact hq
    | ret => exact hq
    | panic ch => exact hq
    | outgrown => exact hq

theorem jump_ret {l : Nat} {J : Act → World → Prop} {Q : Exit → Act → World → Prop} {a : Act} {w : World} : Exit.jump l J Q .ret a w = Q .ret a w := rfl
section
variable {d : Nat} {w w0 : World} {F : Nat → Prop} {ks ks0 : List Kid} {A : Option Addr} {n c i : Nat}
/-- the place of a cursor of some -/
theorem KidsTo.read (h : KidsTo d w0 ks0 w ks) (hv : VecAt w0 (fun j => F j ∧ ∀ k ∈ ks0, ¬ k.f j) A n c (ks0.map (·.v))) (hi : i < n) : ∃ b off k, A = some ⟨b, off, none⟩ ∧ ks[i]? = some k ∧ w.cell? ⟨b, off + i, none⟩ = some k.v := by
  have hl : ks.length = n := by
    have h1 := hv.len
    rw [← h.vals] at h1
    simpa using h1
  obtain ⟨b, off, e, h1, h2, h3⟩ := hv.at_ (by omega)
  have hk : ks[i]? = some ks[i] := List.getElem?_eq_getElem (by omega)
  refine ⟨b, off, ks[i], e, hk, ?_⟩
  rw [h.keep.cell (p := ⟨b, off + i, none⟩) h2 fun ⟨k, g1, g2⟩ => h1.2 k g1 g2]
  refine h3 i _ ?_
  rw [← h.vals, List.getElem?_map, hk]
  rfl
theorem KidsTo.read2 {b off : Nat} (h : KidsTo d w0 ks0 w ks) (hv : VecAt w0 (fun j => F j ∧ ∀ k ∈ ks0, ¬ k.f j) (some ⟨b, off, none⟩) n c (ks0.map (·.v))) (hi : i < n) : ∃ k, ks[i]? = some k ∧ w.cell? ⟨b, off + i, none⟩ = some k.v := by
  obtain ⟨b', off', k, e, h1, h2⟩ := h.read hv hi
  injection e with e
  injection e with e1 e2
  subst e1 e2
  exact ⟨k, h1, h2⟩
theorem KidsTo.move {w' : World} {k : Kid} {L' : List Int} (h : KidsTo d w0 ks0 w ks) (hi : ks[i]? = some k) (hc : CurTo d w k.v L' k.f w') : ∃ ks', KidsTo d w0 ks0 w' ks' ∧ ks'.map (·.l) = (ks.map (·.l)).set i L' ∧ ∃ k', ks'[i]? = some k' ∧ k'.v = k.v ∧ k'.l = L' := by
  obtain ⟨k', h1, h2, h3⟩ := h.step hi hc
  exact ⟨_, h3, by rw [kids_set, h2], k', by rw [List.getElem?_set_self (List.getElem?_eq_some_iff.1 hi).1], h1, h2⟩
theorem set_same {α : Type} {l : List α} {i : Nat} {x : α} (h : l[i]? = some x) : l.set i x = l := by
  refine List.ext_getElem? fun j => ?_
  by_cases e : j = i
  · subst e
    rw [List.getElem?_set_self (List.getElem?_eq_some_iff.1 h).1, h]
  · rw [List.getElem?_set_ne (Ne.symm e)]
theorem KidsTo.stay {w' : World} {k : Kid} (h : KidsTo d w0 ks0 w ks) (hi : ks[i]? = some k) (hc : CurTo d w k.v k.l k.f w') : ∃ ks', KidsTo d w0 ks0 w' ks' ∧ ks'.map (·.l) = ks.map (·.l) ∧ ∃ k', ks'[i]? = some k' ∧ k'.v = k.v ∧ k'.l = k.l := by
  obtain ⟨ks', h1, h2, h3⟩ := h.move hi hc
  exact ⟨ks', h1, by rw [h2, set_same (by rw [List.getElem?_map, hi]; rfl)], h3⟩
theorem KidsTo.wides (h : KidsTo d w0 ks0 w ks) : ∀ l ∈ ks.map (·.l), ∀ x ∈ l, W64 x := fun l hl => by
  obtain ⟨k, hk, rfl⟩ := List.mem_map.1 hl
  exact (h.each k hk).wide
theorem KidsTo.lAt {k : Kid} (hi : ks[i]? = some k) : (ks.map (·.l))[i]? = some k.l := by rw [List.getElem?_map, hi]; rfl
/-- some rows, the first i of which are sought -/
def Sought (i : Nat) (x : Int) (ls0 ls : List (List Int)) : Prop := ls = (ls0.take i).map (seek x) ++ ls0.drop i
theorem Sought.start (x : Int) (ls : List (List Int)) : Sought 0 x ls ls := by simp [Sought]
theorem Sought.done {x : Int} {ls0 ls : List (List Int)} (h : Sought i x ls0 ls) (hi : ls0.length ≤ i) : ls = ls0.map (seek x) := by
  rw [h, List.take_of_length_le hi, List.drop_eq_nil_of_le hi, List.append_nil]
theorem Sought.at_ {x : Int} {ls0 ls : List (List Int)} {l : List Int} (h : Sought i x ls0 ls) (hl : ls[i]? = some l) : ls0[i]? = some l ∧ Sought (i + 1) x ls0 (ls.set i (seek x l)) := by
  have h1 : i < ls.length := (List.getElem?_eq_some_iff.1 hl).1
  have hlen : ls.length = ls0.length := by
    rw [h]
    simp
    omega
  have h2 : ls0[i]? = some l := by
    rw [h, List.getElem?_append_right (by simp; omega)] at hl
    simpa [Nat.min_eq_left (show i ≤ ls0.length by omega)] using hl
  refine ⟨h2, ?_⟩
  unfold Sought
  refine List.ext_getElem? fun j => ?_
  by_cases e : j = i
  · subst e
    rw [List.getElem?_set_self h1, List.getElem?_append_left (by simp; omega)]
    simp [h2]
  · rw [List.getElem?_set_ne (Ne.symm e), h]
    by_cases hj : j < i
    · rw [List.getElem?_append_left (by simp; omega), List.getElem?_append_left (by simp; omega)]
      simp [hj, show j < i + 1 by omega]
    · rw [List.getElem?_append_right (by simp; omega), List.getElem?_append_right (by simp; omega)]
      simp only [List.length_map, List.length_take, List.getElem?_drop]
      congr 1
      omega
end
set_option maxRecDepth 100000 in
set_option maxHeartbeats 1000000 in
theorem meetSeek_any {d : Nat} (hd : CurOk d) (w : World) (F : Nat → Prop) (A : Option Addr) (n c : Nat) (ks : List Kid) (x : Int) (hx : W64 x) (hv : VecAt w (fun j => F j ∧ ∀ k ∈ ks, ¬ k.f j) A n c (ks.map (·.v))) (hk : KidsAt (Cur d) w F ks) :
    Calls Try.prog 89 #[.slice A n c, .int .i64 x] w fun e w' => e = .returned (.tuple #[]) ∧ ∃ ks', KidsTo d w ks w' ks' ∧ ks'.map (·.l) = (ks.map (·.l)).map (seek x) := by
  have Hlen := Lib.hid (show (ks.map (·.l)).length = n by have := hv.len; simpa using this)
  have hn : n ≤ 9223372036854775807 := by have h1 := hv.cap; have h2 := hv.top; unfold maxLen at h2; omega
  have Hk := Lib.hid hk
  have Hv := Lib.hid hv
  have Hd := Lib.hid hd
  clear hk hv hd
  go_enter Try.func89, Try.ntmps89
  go_wp2
  go_loopw [8] (fun v8 wr => ∃ (i : Nat) (ks' : List Kid), i ≤ n ∧ v8 = .int .i64 (i : Int) ∧ Hid (KidsTo d w ks wr ks') ∧ Hid (Sought i x (ks.map (·.l)) (ks'.map (·.l)))) (fun v8 _ => n - (intOf v8).toNat)
  case atStart => exact ⟨0, ks, by omega, rfl, KidsTo.refl Hk.out, Sought.start _ _⟩
  case round =>
    obtain ⟨i, ks', hi, rfl, hK, hS⟩ := hrel
    by_cases hlt : i < n
    · have d1 : decide ((i : Int) < (n : Int)) = true := decide_eq_true (by omega)
      obtain ⟨b, off, k, rfl, hki, hc⟩ := hK.out.read Hv.out hlt
      have Hki := Lib.hid hki
      have Hcall := Lib.hid (Hd.out.seek wr k.v k.l k.f x (hK.out.each k (List.mem_of_getElem? hki)) hx)
      obtain ⟨v, hvv⟩ : ∃ v, v = k.v := ⟨_, rfl⟩
      rw [← hvv] at hc Hcall
      have Hvv := Lib.hid hvv
      clear hki hvv
      go_wp2_with fail
      refine Hcall.out.mono ?_
      rintro e w1 ⟨rfl, hto⟩
      rw [Hvv.out] at hto
      obtain ⟨k', -, hl', hK'⟩ := hK.out.step Hki.out hto
      have hS' : Sought (i + 1) x (ks.map (·.l)) ((ks'.set i k').map (·.l)) := by
        rw [kids_set, hl']
        exact (hS.out.at_ (by rw [List.getElem?_map, Hki.out]; rfl)).2
      have HK' := Lib.hid hK'
      have HS' := Lib.hid hS'
      clear hto hK' hS' hl' Hcall
      go_wp2
      go_roundw
      case rel => exact ⟨i + 1, _, by omega, by go_num, HK', HS'⟩
      case measure => simp [intOf]; omega
    · have d1 : decide ((i : Int) < (n : Int)) = false := decide_eq_false (by omega)
      go_wp2
      go_end0
      exact ⟨rfl, ks', hK.out, by have h := hS.out.done (by rw [Hlen.out]; omega); simpa using h⟩
/-- what holds where meet's now begins anew -/
def MeetJ (d : Nat) (w : World) (A : Option Addr) (n c : Nat) (ks : List Kid) (k : Nat) (a : Act) (wr : World) : Prop :=
  ∃ (ks' : List Kid) (u2 u3 u4 u5 u6 u7 u8 u9 u10 u11 u12 u13 u14 u15 u16 u17 u18 u19 u20 u21 u22 u23 u24 u25 u26 u27 u28 u29 u30 u31 u32 u33 u34 u35 u36 u37 u38 u39 u40 u41 u42 u43 u44 u45 u46 u47 u48 u49 : Value), a = { tmps := #[.slice A n c, undef, u2, u3, u4, u5, u6, u7, u8, u9, u10, u11, u12, u13, u14, u15, u16, u17, u18, u19, u20, u21, u22, u23, u24, u25, u26, u27, u28, u29, u30, u31, u32, u33, u34, u35, u36, u37, u38, u39, u40, u41, u42, u43, u44, u45, u46, u47, u48, u49], defers := [] } ∧ KidsTo d w ks wr ks' ∧ meetL (ks'.map (·.l)) = meetL (ks.map (·.l)) ∧ ((ks'.map (·.l)).headD []).length ≤ k
/-- what stands in all: what is told, what becomes of the cursors -/
def MeetTo (d : Nat) (w : World) (ks : List Kid) (L : List Int) (e : Ending) (w' : World) : Prop := e = .returned (.tuple #[.int .i64 (L.headD 0), .bool (!L.isEmpty)]) ∧ ∃ ks', KidsTo d w ks w' ks' ∧ meetL (ks'.map (·.l)) = meetL (ks.map (·.l))
set_option maxRecDepth 100000 in
set_option maxHeartbeats 4000000 in
theorem meetNow_any {d : Nat} (hd : CurOk d) (w : World) (F : Nat → Prop) (A : Option Addr) (n c : Nat) (ks : List Kid) (hv : VecAt w (fun j => F j ∧ ∀ k ∈ ks, ¬ k.f j) A n c (ks.map (·.v))) (hk : KidsAt (Cur d) w F ks) :
    Calls Try.prog 88 #[.slice A n c] w (MeetTo d w ks (meetL (ks.map (·.l)))) := by
  have Hlen := Lib.hid (show (ks.map (·.l)).length = n by have := hv.len; simpa using this)
  have hn : n ≤ 9223372036854775807 := by have h1 := hv.cap; have h2 := hv.top; unfold maxLen at h2; omega
  have Hk := Lib.hid hk
  have Hv := Lib.hid hv
  have Hd := Lib.hid hd
  clear hk hv hd
  by_cases h0 : n = 0
  · subst h0
    have hL : ks = [] := by
      have := Hlen.out
      exact List.eq_nil_of_length_eq_zero (by simpa using this)
    subst hL
    go_enter Try.func88, Try.ntmps88
    go_wp2
    go_step3
    go_wp2
    try rw [Exit.noGoto_ret]
    go_ret2
    exact ⟨rfl, [], KidsTo.refl Hk.out, rfl⟩
  · have d0 : ((n : Int) == 0) = false := by rw [beq_eq_false_iff_ne]; omega
    go_enter Try.func88, Try.ntmps88
    go_wp2
    refine wp_scope_ghost 0 (MeetJ d w A n c ks) rfl ?pass ?first
    case first =>
      intro hp
      go_wp2
      go_step3
      rename_i K hK
      exact hK _ _ (hp.out _ _ _ ⟨ks, _, _, _, _, _, _, _, _, _, _, _, _, _, _, _, _, _, _, _, _, _, _, _, _, _, _, _, _, _, _, _, _, _, _, _, _, _, _, _, _, _, _, _, _, _, _, _, _, rfl, KidsTo.refl Hk.out, rfl, Nat.le_refl _⟩)
    case pass =>
      rintro q a wo ⟨ks1, u2, u3, u4, u5, u6, u7, u8, u9, u10, u11, u12, u13, u14, u15, u16, u17, u18, u19, u20, u21, u22, u23, u24, u25, u26, u27, u28, u29, u30, u31, u32, u33, u34, u35, u36, u37, u38, u39, u40, u41, u42, u43, u44, u45, u46, u47, u48, u49, rfl, hK1, hM1, hq⟩
      have HK1 := Lib.hid hK1
      have HM1 := Lib.hid hM1
      have Hq := Lib.hid hq
      clear hK1 hM1 hq
      have hn0 : 0 < n := by omega
      obtain ⟨b, off, k0, rfl, hk0, hc0⟩ := HK1.out.read Hv.out hn0
      rw [Nat.add_zero] at hc0
      have Hk0 := Lib.hid hk0
      have Hcall := Lib.hid (Hd.out.now wo k0.v k0.l k0.f (HK1.out.each k0 (List.mem_of_getElem? hk0)))
      obtain ⟨l0, hl0⟩ : ∃ l, l = k0.l := ⟨_, rfl⟩
      obtain ⟨v0, hv0⟩ : ∃ v, v = k0.v := ⟨_, rfl⟩
      rw [← hv0] at hc0 Hcall
      rw [← hl0] at Hcall
      have Hl0 := Lib.hid hl0
      have Hv0 := Lib.hid hv0
      clear hk0 hl0 hv0
      go_wp2_with fail
      refine Hcall.out.mono ?_
      rintro e w1 ⟨rfl, hto⟩
      rw [Hl0.out, Hv0.out] at hto
      obtain ⟨k0', -, hl', hK2⟩ := HK1.out.step Hk0.out hto
      have hS2 : (ks1.set 0 k0').map (·.l) = ks1.map (·.l) := by
        rw [kids_set, hl']
        exact set_same (by rw [List.getElem?_map, Hk0.out]; rfl)
      obtain ⟨ks2, hks2⟩ : ∃ ks2, ks2 = ks1.set 0 k0' := ⟨_, rfl⟩
      rw [← hks2] at hK2 hS2
      have HK2 := Lib.hid hK2
      have HM2 := Lib.hid (show meetL (ks2.map (·.l)) = meetL (ks.map (·.l)) by rw [hS2]; exact HM1.out)
      have H02 := Lib.hid (show (ks2.map (·.l))[0]? = some l0 by rw [hS2, List.getElem?_map, Hk0.out, Hl0.out]; rfl)
      have Hq2 := Lib.hid (show l0.length ≤ q by
        have h := Hq.out
        rw [List.headD_eq_head?_getD, List.head?_eq_getElem?, List.getElem?_map, Hk0.out] at h
        rw [Hl0.out]
        exact h)
      clear hto hK2 hS2 hl' Hcall hks2 hc0
      cases l0 with
      | nil =>
        go_wp2_with fail
        go_loopw [22] (fun v22 wr => ∃ ks3, v22 = .int .i64 0 ∧ Hid (KidsTo d w ks wr ks3) ∧ Hid (meetL (ks3.map (·.l)) = meetL (ks.map (·.l))) ∧ Hid ((ks3.map (·.l))[0]? = some [])) (fun _ _ => 0)
        case atStart => exact ⟨ks2, rfl, HK2.out, HM2.out, H02.out⟩
        case round =>
          obtain ⟨ks3, rfl, HK3, HM3, H03⟩ := hrel
          obtain ⟨k3, hk3, hc3⟩ := HK3.out.read2 Hv.out hn0
          rw [Nat.add_zero] at hc3
          have Hk3 := Lib.hid hk3
          have Hl3 := Lib.hid (show k3.l = [] by
            have h := H03.out
            rw [KidsTo.lAt hk3] at h
            injection h)
          have d1 : decide ((0 : Int) < (n : Int)) = true := decide_eq_true (by omega)
          have Hcall := Lib.hid (Hd.out.seek wr k3.v k3.l k3.f 0 (HK3.out.each k3 (List.mem_of_getElem? hk3)) (by unfold W64; omega))
          obtain ⟨v3, hv3⟩ : ∃ v, v = k3.v := ⟨_, rfl⟩
          rw [← hv3] at hc3 Hcall
          have Hv3 := Lib.hid hv3
          clear hk3 hv3
          go_wp2_with fail
          refine Hcall.out.mono ?_
          rintro e w4 ⟨rfl, hto⟩
          rw [Hl3.out, Hv3.out] at hto
          obtain ⟨ks4, hK4, hS4, k4, hk4, hv4, hl4⟩ := HK3.out.move Hk3.out hto
          rw [show (ks3.map (·.l)).set 0 (seek 0 []) = ks3.map (·.l) from set_same (by rw [H03.out]; rfl)] at hS4
          have hcall := Hd.out.now w4 k4.v k4.l k4.f (hK4.each k4 (List.mem_of_getElem? hk4))
          rw [hv4, ← Hv3.out] at hcall
          have HK4 := Lib.hid hK4
          have HS4 := Lib.hid hS4
          have Hk4 := Lib.hid hk4
          have Hv4 := Lib.hid hv4
          have Hl4 := Lib.hid (show k4.l = [] from hl4)
          have Hcall4 := Lib.hid hcall
          clear hto hK4 hS4 hk4 hv4 hl4 hcall Hcall
          go_wp2_with fail
          refine Hcall4.out.mono ?_
          rintro e w5 ⟨rfl, hto⟩
          rw [Hv3.out, ← Hv4.out] at hto
          obtain ⟨ks5, hK5, hS5, -⟩ := HK4.out.stay Hk4.out hto
          have Hfin := Lib.hid (show meetL (ks.map (·.l)) = [] by
            rw [← HM3.out]
            exact meet_none (List.mem_of_getElem? H03.out))
          have HK5 := Lib.hid hK5
          have HM5 := Lib.hid (show meetL (ks5.map (·.l)) = meetL (ks.map (·.l)) by rw [hS5, HS4.out]; exact HM3.out)
          rw [Hl4.out]
          clear hto hK5 hS5 Hcall4
          go_wp2
          rw [jump_ret]
          go_ret2
          exact ⟨by rw [Hfin.out]; rfl, ks5, HK5.out, HM5.out⟩
      | cons m0 t0 =>
        have Hm0 := Lib.hid (HK2.out.wides _ (List.mem_of_getElem? H02.out) m0 (by simp))
        have Hup := Lib.hid (show Up (m0 :: t0) from HK2.out.ups _ (List.mem_of_getElem? H02.out))
        go_wp2_with fail
        go_loopw [22] (fun v22 wr => ∃ (i : Nat) (ks3 : List Kid), i ≤ n ∧ v22 = .int .i64 (i : Int) ∧ Hid (KidsTo d w ks wr ks3) ∧ Hid (meetL (ks3.map (·.l)) = meetL (ks.map (·.l))) ∧ Hid ((ks3.map (·.l))[0]? = some (m0 :: t0)) ∧ Hid (∀ (j : Nat) (l : List Int), j < i → (ks3.map (·.l))[j]? = some l → m0 ∈ l)) (fun v22 _ => n - (intOf v22).toNat)
        case atStart => exact ⟨0, ks2, by omega, rfl, HK2.out, HM2.out, H02.out, fun j l h => by omega⟩
        case round =>
          obtain ⟨i, ks3, hi, rfl, HK3, HM3, H03, HA3⟩ := hrel
          by_cases hin : i < n
          · obtain ⟨k3, hk3, hc3⟩ := HK3.out.read2 Hv.out hin
            have Hk3 := Lib.hid hk3
            have Hli := Lib.hid (KidsTo.lAt hk3)
            have d1 : decide ((i : Int) < (n : Int)) = true := decide_eq_true (by omega)
            have Hcall := Lib.hid (Hd.out.seek wr k3.v k3.l k3.f m0 (HK3.out.each k3 (List.mem_of_getElem? hk3)) Hm0.out)
            obtain ⟨v3, hv3⟩ : ∃ v, v = k3.v := ⟨_, rfl⟩
            rw [← hv3] at hc3 Hcall
            have Hv3 := Lib.hid hv3
            clear hk3 hv3
            go_wp2_with fail
            refine Hcall.out.mono ?_
            rintro e w4 ⟨rfl, hto⟩
            rw [Hv3.out] at hto
            obtain ⟨ks4, hK4, hS4, k4, hk4, hv4, hl4⟩ := HK3.out.move Hk3.out hto
            have hup3 : Up k3.l := HK3.out.ups _ (List.mem_of_getElem? Hli.out)
            have hM4 : meetL (ks4.map (·.l)) = meetL (ks.map (·.l)) := by
              rw [hS4, meet_set HK3.out.ups Hli.out (fun x hx => up_hd Hup.out ((mem_meet.1 hx).2 _ (List.mem_of_getElem? H03.out)))]
              exact HM3.out
            have h04 : (ks4.map (·.l))[0]? = some (m0 :: t0) := by
              rw [hS4]
              by_cases e : i = 0
              · subst e
                have h1 := Hli.out
                rw [H03.out] at h1
                injection h1 with h1
                rw [← h1, seek_head, set_same H03.out]
                exact H03.out
              · rw [List.getElem?_set_ne e]
                exact H03.out
            have hcall := Hd.out.now w4 k4.v k4.l k4.f (hK4.each k4 (List.mem_of_getElem? hk4))
            obtain ⟨l4, hl4'⟩ : ∃ l, l = seek m0 k3.l := ⟨_, rfl⟩
            rw [← hl4'] at hl4 hS4
            rw [hv4, ← Hv3.out, hl4] at hcall
            have HK4 := Lib.hid hK4
            have HS4 := Lib.hid hS4
            have HM4 := Lib.hid hM4
            have H04 := Lib.hid h04
            have Hk4 := Lib.hid hk4
            have Hv4 := Lib.hid hv4
            have Hl4 := Lib.hid hl4
            have Hsk := Lib.hid hl4'
            have Hup3 := Lib.hid hup3
            have Hcall4 := Lib.hid hcall
            clear hto hK4 hS4 hM4 h04 hk4 hv4 hl4 hl4' hcall Hcall hup3
            go_wp2_with fail
            refine Hcall4.out.mono ?_
            rintro e w5 ⟨rfl, hto⟩
            rw [Hv3.out, ← Hv4.out, ← Hl4.out] at hto
            obtain ⟨ks5, hK5, hS5, -⟩ := HK4.out.stay Hk4.out hto
            have HK5 := Lib.hid hK5
            have HS5 := Lib.hid hS5
            have HM5 := Lib.hid (show meetL (ks5.map (·.l)) = meetL (ks.map (·.l)) by rw [hS5]; exact HM4.out)
            have H05 := Lib.hid (show (ks5.map (·.l))[0]? = some (m0 :: t0) by rw [hS5]; exact H04.out)
            have Hi5 := Lib.hid (show (ks5.map (·.l))[i]? = some l4 by rw [hS5, KidsTo.lAt Hk4.out, Hl4.out])
            clear hto hK5 hS5 Hcall4
            cases l4 with
            | nil =>
              have Hfin := Lib.hid (show meetL (ks.map (·.l)) = [] by
                rw [← HM5.out]
                exact meet_none (List.mem_of_getElem? Hi5.out))
              go_wp2
              rw [jump_ret]
              go_ret2
              exact ⟨by rw [Hfin.out]; rfl, ks5, HK5.out, HM5.out⟩
            | cons x s =>
              obtain ⟨hx1, hx2⟩ := seek_in Hup3.out Hsk.out.symm
              have Hx2 := Lib.hid hx2
              clear hx2
              by_cases hlt : m0 < x
              · have d2 : decide (m0 < x) = true := decide_eq_true hlt
                obtain ⟨k6, hk6, hc6⟩ := HK5.out.read2 Hv.out hn0
                rw [Nat.add_zero] at hc6
                have hl6 : k6.l = m0 :: t0 := by
                  have h := H05.out
                  rw [KidsTo.lAt hk6] at h
                  injection h
                have Hk6 := Lib.hid hk6
                have hcall6 := Hd.out.seek w5 k6.v k6.l k6.f x (HK5.out.each k6 (List.mem_of_getElem? hk6)) (HK5.out.wides _ (List.mem_of_getElem? Hi5.out) x (by simp))
                obtain ⟨v6, hv6⟩ : ∃ v, v = k6.v := ⟨_, rfl⟩
                rw [← hv6] at hc6 hcall6
                rw [hl6] at hcall6
                have Hv6 := Lib.hid hv6
                have Hcall6 := Lib.hid hcall6
                clear hk6 hv6 hcall6 hl6
                go_wp2_with fail
                refine Hcall6.out.mono ?_
                rintro e w6 ⟨rfl, hto⟩
                rw [Hv6.out] at hto
                obtain ⟨ks6, hK6, hS6, -⟩ := HK5.out.move Hk6.out hto
                have hM6 : meetL (ks6.map (·.l)) = meetL (ks.map (·.l)) := by
                  rw [hS6, meet_set HK5.out.ups H05.out (fun y hy => up_hd (HK5.out.ups _ (List.mem_of_getElem? Hi5.out)) ((mem_meet.1 hy).2 _ (List.mem_of_getElem? Hi5.out)))]
                  exact HM5.out
                have hq6 : ((ks6.map (·.l)).headD []).length < q := by
                  have hz := (List.getElem?_eq_some_iff.1 H05.out).1
                  rw [List.headD_eq_head?_getD, List.head?_eq_getElem?, hS6, List.getElem?_set_self hz]
                  have h1 := seek_less (t := t0) hlt
                  have h2 := Hq2.out
                  simp only [Option.getD_some]
                  omega
                have HK6 := Lib.hid hK6
                have HM6 := Lib.hid hM6
                have Hq6 := Lib.hid hq6
                clear hto hK6 hS6 hM6 hq6 Hcall6
                go_wp2
                go_step3
                exact ⟨rfl, _, Hq6.out, ks6, _, _, _, _, _, _, _, _, _, _, _, _, _, _, _, _, _, _, _, _, _, _, _, _, _, _, _, _, _, _, _, _, _, _, _, _, _, _, _, _, _, _, _, _, _, _, _, _, rfl, HK6.out, HM6.out, Nat.le_refl _⟩
              · have d2 : decide (m0 < x) = false := decide_eq_false hlt
                obtain rfl : x = m0 := by omega
                have HA5 := Lib.hid (show ∀ (j : Nat) (l : List Int), j < i + 1 → (ks5.map (·.l))[j]? = some l → x ∈ l from fun j l hj hl => by
                  by_cases e : j = i
                  · subst e
                    rw [Hi5.out] at hl
                    injection hl with hl
                    rw [← hl]
                    simp
                  · rw [HS5.out, HS4.out, List.getElem?_set_ne (Ne.symm e)] at hl
                    exact HA3.out j l (by omega) hl)
                clear hlt hx1
                go_wp2
                go_roundw
                case rel => exact ⟨i + 1, ks5, by omega, by go_num, HK5, HM5, H05, HA5⟩
                case measure => simp [intOf]; omega
          · obtain rfl : i = n := by omega
            have d1 : decide ((i : Int) < (i : Int)) = false := decide_eq_false (by omega)
            have Hfin := Lib.hid (show ∃ s, meetL (ks.map (·.l)) = m0 :: s by
              rw [← HM3.out]
              have hlen3 : (ks3.map (·.l)).length = i := by
                have h1 := HK3.out.vals
                have h2 := congrArg List.length h1
                have h3 := Hlen.out
                simp only [List.length_map] at h2 h3 ⊢
                omega
              cases hc : ks3.map (·.l) with
              | nil => rw [hc] at hlen3; simp at hlen3; omega
              | cons a r =>
                have h0' := H03.out
                rw [hc] at h0' hlen3
                obtain rfl : a = m0 :: t0 := by simpa using h0'
                refine meet_head Hup.out (fun l hl => ?_) (fun l hl => HK3.out.ups l (by rw [hc]; simp [hl]))
                obtain ⟨j, hj⟩ := List.getElem?_of_mem hl
                have hjlt := (List.getElem?_eq_some_iff.1 hj).1
                exact HA3.out (j + 1) l (by simp at hlen3; omega) (by rw [hc]; simpa using hj))
            go_wp2
            rw [jump_ret]
            go_ret2
            obtain ⟨s, hs⟩ := Hfin.out
            exact ⟨by rw [hs]; rfl, ks3, HK3.out, HM3.out⟩
/-- what stands in one: what is told, what becomes of the cursors -/
def JoinTo (d : Nat) (w : World) (ks : List Kid) (L : List Int) (e : Ending) (w' : World) : Prop := e = .returned (.tuple #[.int .i64 (L.headD 0), .bool (!L.isEmpty)]) ∧ ∃ ks', KidsTo d w ks w' ks' ∧ ks'.map (·.l) = ks.map (·.l)
theorem headD_of {L : List Int} {o : Option Int} (h : L.head? = o) : Ending.returned (.tuple #[.int .i64 (L.headD 0), .bool (!L.isEmpty)]) = .returned (.tuple #[.int .i64 (o.getD 0), .bool o.isSome]) := by
  subst h
  cases L <;> rfl
end Go.Proofs.Ytamdejidkgnaeaa
