/-
  The walks of a Cursor's Now, Seek and Next, over whatever others it is made, however deep.
-/
import Derived.Test.YthjnggclemhgkaaCurMeet
namespace Go.Proofs.Ythjnggclemhgkaa
open Go.RowKit CurM
set_option linter.unusedVariables false

section
variable {d : Nat} {w w' : World} {v : Value} {L : List Int} {F : Nat → Prop}
/-- a cursor with numbers left is one that is -/
theorem Cur.ptr {x : Int} {t : List Int} (h : Cur d w v (x :: t) F) : ∃ g mv, v = .pointer (some ⟨g, 0, none⟩) ∧ Blk w g 70 #[mv] ∧ F g := by
  obtain ⟨e, rfl⟩ := h.pos
  have hs : CurStep (Cur e) w F v (x :: t) := CurAt.step h
  generalize hL : x :: t = L at hs
  cases hs with
  | nil => cases hL
  | row g r A n c L hg hr fg fr hn hv => exact ⟨g, _, rfl, hg, fg⟩
  | span g r a b hg hr fg fr ha hb => exact ⟨g, _, rfl, hg, fg⟩
  | meet g A n c ks hg fg gk hv hk => exact ⟨g, _, rfl, hg, fg⟩
  | join g A n c ks hg fg gk hv hk => exact ⟨g, _, rfl, hg, fg⟩
  | less g a b hg fg gk hk => exact ⟨g, _, rfl, hg, fg⟩
end
set_option maxRecDepth 100000 in
set_option maxHeartbeats 2000000 in
theorem past_any {d : Nat} (hd : CurOk d) (w : World) (v : Value) (x : Int) (t : List Int) (F : Nat → Prop) (h : Cur d w v (x :: t) F) : Calls Try.prog 33 #[v, .int .i64 x] w (MovTo d w v t F) := by
  have hw : W64 x := h.wide x (by simp)
  obtain ⟨hw1, hw2⟩ := hw
  have Hd := Lib.hid hd
  have H := Lib.hid h
  clear hd h
  have Hc := Lib.hid (Hd.out.seek w v (x :: t) F x H.out ⟨hw1, hw2⟩)
  go_enter Try.func33, Try.ntmps33
  go_wp2_with fail
  refine Hc.out.mono ?_
  rintro e w1 ⟨rfl, hto⟩
  rw [seek_head] at hto
  obtain ⟨F1, h1, k1, f1⟩ := hto
  have H1 := Lib.hid h1
  have K1 := Lib.hid k1
  have Hf1 := Lib.hid f1
  clear h1 k1 f1 Hc
  by_cases hx : x < 9223372036854775807
  · have d1 : decide (x < x + 1) = true := decide_eq_true (by omega)
    have Hc := Lib.hid (Hd.out.seek w1 v (x :: t) F1 (x + 1) H1.out ⟨by omega, by omega⟩)
    rw [seek_next H.out.up] at Hc
    go_wp2_with fail
    refine Hc.out.mono ?_
    rintro e w2 ⟨rfl, hto⟩
    have Hto := Lib.hid (CurTo.trans K1.out Hf1.out hto)
    clear hto Hc
    go_wp2
    go_end0
    exact ⟨rfl, Hto.out⟩
  · have ht : t = [] := by
      cases t with
      | nil => rfl
      | cons y s =>
        have h1 := (up_cons.1 H.out.up).1 y (by simp)
        have h2 := (H.out.wide y (by simp)).2
        omega
    subst ht
    have e1 : wrap64 (x + 1) = -9223372036854775808 := by
      have : x = 9223372036854775807 := by omega
      unfold wrap64
      omega
    have d1 : decide (x < wrap64 (x + 1)) = false := by rw [e1]; exact decide_eq_false (by omega)
    clear e1
    obtain ⟨g, mv, rfl, hg, fg⟩ := H1.out.ptr
    have hf := hg.frozen 0
    have hc := hg.cell 0
    have hlt := hg.lt
    have Hg := Lib.hid hg
    clear hg
    go_wp2
    go_end0
    have hb : Blk ((w1.setCell ⟨g, 0, none⟩ (.iface 75 (.pointer (some ⟨w1.heap.size, 0, none⟩)))).alloc (.cells #[.int .i64 0, .int .i64 0] 77)) g 70 #[.iface 75 (.pointer (some ⟨w1.heap.size, 0, none⟩))] := (Hg.out.set 0 _).alloc _
    have hr : Blk ((w1.setCell ⟨g, 0, none⟩ (.iface 75 (.pointer (some ⟨w1.heap.size, 0, none⟩)))).alloc (.cells #[.int .i64 0, .int .i64 0] 77)) w1.heap.size 77 #[.int .i64 0, .int .i64 0] := by
      have h := Blk.new (w1.setCell ⟨g, 0, none⟩ (.iface 75 (.pointer (some ⟨w1.heap.size, 0, none⟩)))) 77 #[.int .i64 0, .int .i64 0]
      rwa [size_setCell] at h
    have hk : Keep F1 w1 ((w1.setCell ⟨g, 0, none⟩ (.iface 75 (.pointer (some ⟨w1.heap.size, 0, none⟩)))).alloc (.cells #[.int .i64 0, .int .i64 0] 77)) :=
      ((Keep.setCell w1 ⟨g, 0, none⟩ _).trans (Keep.alloc (S := fun _ => False) _ _) fun _ h => h.elim).mono fun j hj => Or.inl (by rw [show j = g from hj]; exact fg)
    obtain ⟨e, rfl⟩ := H1.out.pos
    refine ⟨rfl, CurTo.trans K1.out Hf1.out ⟨fun j => F1 j ∨ j = w1.heap.size, ⟨?_, up_nil, by simp, fun j hj => ?_⟩, hk, fun j hj => ?_⟩⟩
    · exact .span g w1.heap.size 0 0 hb hr (Or.inl fg) (Or.inr rfl) (by unfold W64; omega) (by unfold W64; omega)
    · rcases hj with hj | hj
      · exact Nat.lt_of_lt_of_le (H1.out.lt j hj) hk.size
      · rw [hj]
        exact hr.lt
    · rcases hj with hj | hj
      · exact Or.inl hj
      · exact Or.inr (Nat.le_of_eq hj.symm)
set_option maxRecDepth 100000 in
set_option maxHeartbeats 2000000 in
theorem next_any {d : Nat} (hd : CurOk d) (w : World) (v : Value) (L : List Int) (F : Nat → Prop) (h : Cur d w v L F) : Calls Try.prog 29 #[v] w (MovTo d w v L.tail F) := by
  have Hd := Lib.hid hd
  have H := Lib.hid h
  clear hd h
  have Hc := Lib.hid (Hd.out.now w v L F H.out)
  cases L with
  | nil =>
    go_enter Try.func29, Try.ntmps29
    go_wp2_with fail
    refine Hc.out.mono ?_
    rintro e w1 ⟨rfl, hto⟩
    have Hto := Lib.hid hto
    clear hto Hc
    go_wp2
    go_end0
    exact ⟨rfl, Hto.out⟩
  | cons x t =>
    go_enter Try.func29, Try.ntmps29
    go_wp2_with fail
    refine Hc.out.mono ?_
    rintro e w1 ⟨rfl, F1, h1, k1, f1⟩
    have K1 := Lib.hid k1
    have Hf1 := Lib.hid f1
    have Hp := Lib.hid (past_any Hd.out w1 v x t F1 h1)
    clear h1 k1 f1 Hc
    go_wp2_with fail
    refine Hp.out.mono ?_
    rintro e w2 ⟨rfl, hto⟩
    have Hto := Lib.hid (CurTo.trans K1.out Hf1.out hto)
    clear hto Hp
    go_wp2
    go_end0
    exact ⟨rfl, Hto.out⟩
/-- the moves of two cursors, from a world a little ahead -/
theorem KidsTo.base {d : Nat} {w w0 w1 : World} {ks0 ks : List Kid} (hg : Grow w w0) (h : KidsTo d w0 ks0 w1 ks) : KidsTo d w ks0 w1 ks :=
  ⟨h.each, h.apart, h.vals, (Keep.grow (S := fun j => ∃ k ∈ ks0, k.f j) hg).trans h.keep fun _ hj => Or.inl hj, fun k hk j hj => by
    rcases h.from_ k hk j hj with h1 | h1
    · exact Or.inl h1
    · exact Or.inr (Nat.le_trans hg.size h1)⟩
theorem KidsTo.two {d : Nat} {w0 w : World} {a b : Kid} {ks : List Kid} (h : KidsTo d w0 [a, b] w ks) : ∃ a' b', ks = [a', b'] ∧ a'.v = a.v ∧ b'.v = b.v := by
  have h1 := h.vals
  match ks, h1 with
  | [a', b'], h1 =>
    simp only [List.map_cons, List.map_nil, List.cons.injEq, and_true] at h1
    exact ⟨a', b', rfl, h1.1, h1.2⟩
  | [], h1 => simp at h1
  | [_], h1 => simp at h1
  | _ :: _ :: _ :: _, h1 => simp at h1
theorem KidsTo.moveA {d : Nat} {w0 w w' : World} {ks0 : List Kid} {a b : Kid} {L' : List Int} (h : KidsTo d w0 ks0 w [a, b]) (hc : CurTo d w a.v L' a.f w') : ∃ a' b', KidsTo d w0 ks0 w' [a', b'] ∧ a'.v = a.v ∧ b'.v = b.v ∧ a'.l = L' ∧ b'.l = b.l := by
  obtain ⟨a', h1, h2, h3⟩ := h.step (i := 0) rfl hc
  exact ⟨a', b, h3, h1, rfl, h2, rfl⟩
theorem KidsTo.moveB {d : Nat} {w0 w w' : World} {ks0 : List Kid} {a b : Kid} {L' : List Int} (h : KidsTo d w0 ks0 w [a, b]) (hc : CurTo d w b.v L' b.f w') : ∃ a' b', KidsTo d w0 ks0 w' [a', b'] ∧ a'.v = a.v ∧ b'.v = b.v ∧ a'.l = a.l ∧ b'.l = L' := by
  obtain ⟨b', h1, h2, h3⟩ := h.step (i := 1) rfl hc
  exact ⟨a, b', h3, rfl, h1, rfl, h2⟩
/-- what stands in one and not in the other: what is told, what becomes of them -/
def LessTo (d : Nat) (w : World) (a b : Kid) (L : List Int) (e : Ending) (w' : World) : Prop := e = .returned (.tuple #[.int .i64 (L.headD 0), .bool (!L.isEmpty)]) ∧ ∃ a' b', KidsTo d w [a, b] w' [a', b'] ∧ lessL a'.l b'.l = L
/-- what holds of the two amid the rounds -/
structure LessInv (d : Nat) (w W0 : World) (g : Nat) (a b : Kid) (va vb : Value) (L : List Int) (wr : World) (k : Nat) : Prop where
  ex : ∃ a' b', KidsTo d W0 [a, b] wr [a', b'] ∧ a'.v = va ∧ b'.v = vb ∧ lessL a'.l b'.l = L ∧ a'.l.length ≤ k
  box : Blk wr g 74 #[va, vb]
theorem LessInv.keep {d : Nat} {w W0 : World} {g : Nat} {a b : Kid} {va vb : Value} {wr w1 : World} {ks ks' : List Kid} (hb : Blk wr g 74 #[va, vb]) (h : KidsTo d W0 [a, b] wr ks) (h' : KidsTo d W0 [a, b] w1 ks') (hW : Blk W0 g 74 #[va, vb]) (hg : ∀ k ∈ [a, b], ¬ k.f g) : Blk w1 g 74 #[va, vb] :=
  h'.keep.blk hW fun ⟨k, h1, h2⟩ => hg k h1 h2
set_option maxRecDepth 100000 in
set_option maxHeartbeats 4000000 in
theorem lessNow_any {d : Nat} (hd : CurOk d) (w : World) (F : Nat → Prop) (a b : Kid) (hk : KidsAt (Cur d) w F [a, b]) :
    Calls Try.prog 58 #[.agg #[a.v, b.v]] w (LessTo d w a b (lessL a.l b.l)) := by
  obtain ⟨va, hva⟩ : ∃ v, v = a.v := ⟨_, rfl⟩
  obtain ⟨vb, hvb⟩ : ∃ v, v = b.v := ⟨_, rfl⟩
  obtain ⟨W0, hW0⟩ : ∃ W0, w.alloc (.cells #[va, vb] 74) = W0 := ⟨_, rfl⟩
  have hg0 : Grow w W0 := by rw [← hW0]; exact Grow.alloc _ _
  have hb0 : Blk W0 w.heap.size 74 #[va, vb] := by rw [← hW0]; exact Blk.new _ _ _
  have hng : ∀ k ∈ [a, b], ¬ k.f w.heap.size := fun k hm hf => by
    have := (hk.each k hm).lt _ hf
    omega
  have hK0 : KidsTo d W0 [a, b] W0 [a, b] := KidsTo.refl (F := F) (hk.kept fun k _ h => h.grow hg0)
  rw [← hva, ← hvb]
  have HK0 := Lib.hid hK0
  have Hb0 := Lib.hid hb0
  have Hg0 := Lib.hid hg0
  have Hng := Lib.hid hng
  have Hva := Lib.hid hva
  have Hvb := Lib.hid hvb
  have Hd := Lib.hid hd
  clear hva hvb hK0 hng hg0 hk hd hb0
  go_enter Try.func58, Try.ntmps58
  go_wp2
  try rw [hW0]
  clear hW0
  go_step3
  go_wp2
  go_step3
  go_wp2
  go_loopg [] a.l.length (fun k wr => LessInv d w W0 w.heap.size a b va vb (lessL a.l b.l) wr k)
  case atStart => exact ⟨⟨a, b, HK0.out, Hva.out.symm, Hvb.out.symm, rfl, Nat.le_refl _⟩, Hb0.out⟩
  case round =>
    obtain ⟨⟨a1, b1, hK1, hva1, hvb1, hL1, hq1⟩, hbx⟩ := hrel
    have hc0 := hbx.cell 0
    have hc1 := hbx.cell 1
    have hz := hbx.lt
    have Hcall := Lib.hid (Hd.out.now wr a1.v a1.l a1.f (hK1.each a1 (by simp)))
    rw [hva1] at Hcall
    obtain ⟨la, hla⟩ : ∃ l, l = a1.l := ⟨_, rfl⟩
    rw [← hla] at Hcall hq1 hL1
    have Hla := Lib.hid hla
    have HK1 := Lib.hid hK1
    have Hva1 := Lib.hid hva1
    have Hvb1 := Lib.hid hvb1
    have HL1 := Lib.hid hL1
    have Hq1 := Lib.hid hq1
    clear hK1 hva1 hvb1 hL1 hq1 hla hbx
    go_wp2_with fail
    refine Hcall.out.mono ?_
    rintro e w1 ⟨rfl, hto⟩
    rw [Hla.out, ← Hva1.out] at hto
    obtain ⟨a2, b2, hK2, e1, e2, e3, e4⟩ := HK1.out.moveA hto
    have hbx := hK2.keep.blk Hb0.out fun ⟨k, h1, h2⟩ => Hng.out k h1 h2
    clear hc0 hc1 hto Hcall
    have hc0 := hbx.cell 0
    have hc1 := hbx.cell 1
    have HK2 := Lib.hid hK2
    have Ha2 := Lib.hid (show a2.l = la by rw [e3, Hla.out])
    have Hv2 := Lib.hid (show b2.v = vb by rw [e2]; exact Hvb1.out)
    have Hb2 := Lib.hid (show b2.l = b1.l from e4)
    clear e1 e2 e3 e4 hK2 hbx
    have Hcall := Lib.hid (Hd.out.seek w1 b2.v b2.l b2.f (la.headD 0) (HK2.out.each b2 (by simp)) (by
      have h1 := (HK2.out.each a2 (by simp)).wide
      rw [Ha2.out] at h1
      cases la with
      | nil => unfold W64; simp
      | cons x t => exact h1 x (by simp)))
    rw [Hv2.out] at Hcall
    cases la with
    | nil =>
      go_wp2_with fail
      refine Hcall.out.mono ?_
      rintro e w2 ⟨rfl, hto⟩
      rw [← Hv2.out] at hto
      obtain ⟨a3, b3, hK3, e1, e2, e3, e4⟩ := HK2.out.moveB hto
      have hbx := hK3.keep.blk Hb0.out fun ⟨k, h1, h2⟩ => Hng.out k h1 h2
      clear hc0 hc1 hto Hcall
      have hc0 := hbx.cell 0
      have hc1 := hbx.cell 1
      have HK3 := Lib.hid hK3
      have Hv3 := Lib.hid (show b3.v = vb by rw [e2]; exact Hv2.out)
      have Ha3 := Lib.hid (show a3.l = [] by rw [e3]; exact Ha2.out)
      have Hcall := Lib.hid (Hd.out.now w2 b3.v b3.l b3.f (hK3.each b3 (by simp)))
      rw [Hv3.out] at Hcall
      clear e1 e2 e3 e4 hK3 hbx
      obtain ⟨l3, hl3⟩ : ∃ l, l = b3.l := ⟨_, rfl⟩
      rw [← hl3] at Hcall
      have Hl3 := Lib.hid hl3
      clear hl3
      go_wp2_with fail
      refine Hcall.out.mono ?_
      rintro e w3 ⟨rfl, hto⟩
      rw [← Hv3.out, Hl3.out] at hto
      obtain ⟨a4, b4, hK4, e1, e2, e3, e4⟩ := HK3.out.moveB hto
      have HK4 := Lib.hid hK4
      have Ha4 := Lib.hid (show a4.l = [] by rw [e3]; exact Ha3.out)
      have Hfin := Lib.hid (show lessL a.l b.l = [] by rw [← HL1.out]; rfl)
      clear e1 e2 e3 e4 hK4 hto Hcall hc0 hc1
      go_wp2
      try rw [Exit.noGoto_ret]
      go_ret2
      exact ⟨by rw [Hfin.out]; rfl, a4, b4, HK4.out.base Hg0.out, by rw [Ha4.out, Hfin.out]; rfl⟩
    | cons x t =>
      have Hupa := Lib.hid (show Up (x :: t) by rw [← Ha2.out]; exact (HK2.out.each a2 (by simp)).up)
      have Hupb := Lib.hid ((HK2.out.each b2 (by simp)).up)
      go_wp2_with fail
      refine Hcall.out.mono ?_
      rintro e w2 ⟨rfl, hto⟩
      rw [← Hv2.out] at hto
      obtain ⟨a3, b3, hK3, e1, e2, e3, e4⟩ := HK2.out.moveB hto
      have hbx := hK3.keep.blk Hb0.out fun ⟨k, h1, h2⟩ => Hng.out k h1 h2
      clear hc0 hc1 hto Hcall
      have hc0 := hbx.cell 0
      have hc1 := hbx.cell 1
      have HK3 := Lib.hid hK3
      have Hv3 := Lib.hid (show b3.v = vb by rw [e2]; exact Hv2.out)
      have Ha3 := Lib.hid (show a3.l = x :: t by rw [e3]; exact Ha2.out)
      have Hcall := Lib.hid (Hd.out.now w2 b3.v b3.l b3.f (hK3.each b3 (by simp)))
      rw [Hv3.out] at Hcall
      have Hb3 := Lib.hid (show b3.l = seek x b2.l from e4)
      have hva3 : a3.v = va := by
        have h := (hK3.vals)
        simp only [List.map_cons, List.map_nil, List.cons.injEq, and_true] at h
        rw [h.1, Hva.out]
      have Hva3 := Lib.hid hva3
      clear e1 e2 e3 e4 hK3 hbx hva3
      obtain ⟨l3, hl3⟩ : ∃ l, l = b3.l := ⟨_, rfl⟩
      rw [← hl3] at Hcall Hb3
      have Hl3 := Lib.hid hl3
      have HL3 := Lib.hid (show lessL (x :: t) l3 = lessL a.l b.l by rw [Hb3.out, Hb2.out, less_set Hupa.out (by rw [← Hb2.out]; exact Hupb.out)]; exact HL1.out)
      clear hl3
      go_wp2_with fail
      refine Hcall.out.mono ?_
      rintro e w3 ⟨rfl, hto⟩
      rw [← Hv3.out, Hl3.out] at hto
      obtain ⟨a4, b4, hK4, e1, e2, e3, e4⟩ := HK3.out.moveB hto
      have hbx := hK4.keep.blk Hb0.out fun ⟨k, h1, h2⟩ => Hng.out k h1 h2
      clear hc0 hc1
      have hc0 := hbx.cell 0
      have hc1 := hbx.cell 1
      have HK4 := Lib.hid hK4
      have Ha4 := Lib.hid (show a4.l = x :: t by rw [e3]; exact Ha3.out)
      have Hb4 := Lib.hid (show b4.l = l3 by rw [e4, ← Hl3.out])
      have Hva4 := Lib.hid (show a4.v = va by rw [e1]; exact Hva3.out)
      have Hvb4 := Lib.hid (show b4.v = vb by rw [e2]; exact Hv3.out)
      clear e1 e2 e3 e4 hK4 hto Hcall hbx
      cases l3 with
      | nil =>
        have Hfin := Lib.hid (show lessL a.l b.l = x :: lessL t [] by rw [← HL3.out]; exact less_stay (by simp))
        go_wp2
        try rw [Exit.noGoto_ret]
        go_ret2
        exact ⟨by rw [Hfin.out]; rfl, a4, b4, HK4.out.base Hg0.out, by rw [Ha4.out, Hb4.out]; exact HL3.out⟩
      | cons y s =>
        obtain ⟨hy1, hy2⟩ := seek_in (by rw [Hb2.out] at Hupb; exact Hupb.out) (show seek x b1.l = y :: s by rw [← Hb2.out]; exact Hb3.out.symm)
        by_cases hyx : y = x
        · subst hyx
          have d1 : (y == y) = true := by simp
          have Hn := Lib.hid (next_any Hd.out w3 a4.v a4.l a4.f (HK4.out.each a4 (by simp)))
          rw [Hva4.out, Ha4.out] at Hn
          clear hy1 hy2
          go_wp2_with fail
          refine Hn.out.mono ?_
          rintro e w4 ⟨rfl, hto⟩
          rw [← Hva4.out] at hto
          obtain ⟨a5, b5, hK5, e1, e2, e3, e4⟩ := HK4.out.moveA hto
          have Hnew := Lib.hid (show LessInv d w W0 w.heap.size a b va vb (lessL a.l b.l) w4 t.length from ⟨⟨a5, b5, hK5, by rw [e1]; exact Hva4.out, by rw [e2]; exact Hvb4.out, by
            rw [e3, e4, Hb4.out, ← HL3.out]
            exact (less_skip (by simp)).symm, by rw [e3]; exact Nat.le_refl _⟩, hK5.keep.blk Hb0.out fun ⟨k, h1, h2⟩ => Hng.out k h1 h2⟩)
          clear e1 e2 e3 e4 hK5 hto Hn hc0 hc1
          go_wp2
          go_roundg t.length
          case rel => exact Hnew.out
          case measure => have := Hq1.out; simp only [List.length_cons] at this; omega
        · have d1 : (y == x) = false := by rw [beq_eq_false_iff_ne]; exact hyx
          have Hfin := Lib.hid (show lessL a.l b.l = x :: lessL t (y :: s) by
            rw [← HL3.out]
            refine less_stay fun hm => hyx (hy2.2 ?_)
            rw [← Hb2.out]
            have h1 : x ∈ seek x b2.l := by rw [← Hb3.out]; exact hm
            exact ((mem_seek Hupb.out).1 h1).1)
          clear hy1 hy2
          go_wp2
          try rw [Exit.noGoto_ret]
          go_ret2
          exact ⟨by rw [Hfin.out]; rfl, a4, b4, HK4.out.base Hg0.out, by rw [Ha4.out, Hb4.out]; exact HL3.out⟩
set_option maxRecDepth 100000 in
set_option maxHeartbeats 1000000 in
theorem lessSeek_any {d : Nat} (hd : CurOk d) (w : World) (F : Nat → Prop) (a b : Kid) (x : Int) (hx : W64 x) (hk : KidsAt (Cur d) w F [a, b]) :
    Calls Try.prog 59 #[.agg #[a.v, b.v], .int .i64 x] w fun e w' => e = .returned (.tuple #[]) ∧ ∃ a' b', KidsTo d w [a, b] w' [a', b'] ∧ a'.l = seek x a.l ∧ b'.l = b.l := by
  obtain ⟨va, hva⟩ : ∃ v, v = a.v := ⟨_, rfl⟩
  obtain ⟨vb, hvb⟩ : ∃ v, v = b.v := ⟨_, rfl⟩
  obtain ⟨W0, hW0⟩ : ∃ W0, w.alloc (.cells #[va, vb] 74) = W0 := ⟨_, rfl⟩
  have hg0 : Grow w W0 := by rw [← hW0]; exact Grow.alloc _ _
  have hb0 : Blk W0 w.heap.size 74 #[va, vb] := by rw [← hW0]; exact Blk.new _ _ _
  have hK0 : KidsTo d W0 [a, b] W0 [a, b] := KidsTo.refl (F := F) (hk.kept fun k _ h => h.grow hg0)
  have Hc := Lib.hid (hd.seek W0 a.v a.l a.f x (hK0.each a (by simp)) hx)
  rw [← hva, ← hvb]
  rw [← hva] at Hc
  have hc0 := hb0.cell 0
  have hc1 := hb0.cell 1
  have hz := hb0.lt
  have HK0 := Lib.hid hK0
  have Hg0 := Lib.hid hg0
  have Hva := Lib.hid hva
  clear hva hvb hK0 hg0 hk hd hb0
  go_enter Try.func59, Try.ntmps59
  go_wp2_with fail
  try rw [hW0]
  clear hW0
  go_wp2_with fail
  refine Hc.out.mono ?_
  rintro e w1 ⟨rfl, hto⟩
  rw [Hva.out] at hto
  obtain ⟨a1, b1, hK1, -, -, e3, e4⟩ := HK0.out.moveA hto
  have Hfin := Lib.hid (show ∃ a' b', KidsTo d w [a, b] w1 [a', b'] ∧ a'.l = seek x a.l ∧ b'.l = b.l from ⟨a1, b1, hK1.base Hg0.out, e3, e4⟩)
  clear hK1 e3 e4 hto Hc hc0 hc1
  go_wp2
  go_end0
  exact ⟨rfl, Hfin.out⟩

theorem m_rowNow (r : Nat) (k : Nat) (w : World) : (method (k + 1) 66 (.pointer (some ⟨r, 0, none⟩)) "mudlark/cursor.now").run Try.prog w = .ok (50, .pointer (some ⟨r, 0, none⟩)) w := by kernel_rfl
theorem m_spanNow (r : Nat) (k : Nat) (w : World) : (method (k + 1) 75 (.pointer (some ⟨r, 0, none⟩)) "mudlark/cursor.now").run Try.prog w = .ok (60, .pointer (some ⟨r, 0, none⟩)) w := by kernel_rfl
theorem m_meetNow (A : Option Addr) (n c : Nat) (k : Nat) (w : World) : (method (k + 1) 71 (.slice A n c) "mudlark/cursor.now").run Try.prog w = .ok (56, .slice A n c) w := by kernel_rfl
theorem m_joinNow (A : Option Addr) (n c : Nat) (k : Nat) (w : World) : (method (k + 1) 79 (.slice A n c) "mudlark/cursor.now").run Try.prog w = .ok (62, .slice A n c) w := by kernel_rfl
theorem m_lessNow (a b : Value) (k : Nat) (w : World) : (method (k + 1) 74 (.agg #[a, b]) "mudlark/cursor.now").run Try.prog w = .ok (58, .agg #[a, b]) w := by kernel_rfl
theorem m_rowSeek (r : Nat) (k : Nat) (w : World) : (method (k + 1) 66 (.pointer (some ⟨r, 0, none⟩)) "mudlark/cursor.seek").run Try.prog w = .ok (51, .pointer (some ⟨r, 0, none⟩)) w := by kernel_rfl
theorem m_spanSeek (r : Nat) (k : Nat) (w : World) : (method (k + 1) 75 (.pointer (some ⟨r, 0, none⟩)) "mudlark/cursor.seek").run Try.prog w = .ok (61, .pointer (some ⟨r, 0, none⟩)) w := by kernel_rfl
theorem m_meetSeek (A : Option Addr) (n c : Nat) (k : Nat) (w : World) : (method (k + 1) 71 (.slice A n c) "mudlark/cursor.seek").run Try.prog w = .ok (57, .slice A n c) w := by kernel_rfl
theorem m_joinSeek (A : Option Addr) (n c : Nat) (k : Nat) (w : World) : (method (k + 1) 79 (.slice A n c) "mudlark/cursor.seek").run Try.prog w = .ok (63, .slice A n c) w := by kernel_rfl
theorem m_lessSeek (a b : Value) (k : Nat) (w : World) : (method (k + 1) 74 (.agg #[a, b]) "mudlark/cursor.seek").run Try.prog w = .ok (59, .agg #[a, b]) w := by kernel_rfl
set_option maxRecDepth 100000 in
set_option maxHeartbeats 4000000 in
theorem nowStep {d : Nat} (hd : CurOk d) (w : World) (v : Value) (L : List Int) (F : Nat → Prop) (h : Cur (d + 1) w v L F) : Calls Try.prog 28 #[v] w (NowTo (d + 1) w v L F) := by
  have H := Lib.hid h
  have hs : CurStep (Cur d) w F v L := CurAt.step h
  have hlt : ∀ j, F j → j < w.heap.size := CurAt.lt h
  clear h
  cases hs with
  | nil =>
    go_enter Try.func28, Try.ntmps28
    go_wp2
    go_ret2
    exact ⟨rfl, CurTo.refl H.out⟩
  | row g r A n c L hg hr fg fr hn hv =>
    have hc := hg.cell 0
    have hm := m_rowNow r
    obtain ⟨x0, hx0⟩ : ∃ x, x = L.headD 0 := ⟨_, rfl⟩
    obtain ⟨b0, hb0⟩ : ∃ z, z = !L.isEmpty := ⟨_, rfl⟩
    have Hc := Lib.hid (rowNow_any w r F A n c L hr hv)
    rw [← hx0, ← hb0] at Hc
    have Hx0 := Lib.hid hx0
    have Hb0 := Lib.hid hb0
    have Hfin := Lib.hid (CurTo.refl H.out)
    clear hx0 hb0 hg hr hv hlt fg fr hd
    go_enter Try.func28, Try.ntmps28
    go_wp2_with fail
    refine Hc.out.mono ?_
    rintro e w1 ⟨rfl, rfl⟩
    go_wp2
    go_ret2
    exact ⟨by rw [← Hx0.out, ← Hb0.out]; rfl, Hfin.out⟩
  | span g r a b hg hr fg fr ha hb =>
    have hc := hg.cell 0
    have hm := m_spanNow r
    obtain ⟨x0, hx0⟩ : ∃ x, x = (spanL a b).headD 0 := ⟨_, rfl⟩
    obtain ⟨b0, hb0⟩ : ∃ z, z = !(spanL a b).isEmpty := ⟨_, rfl⟩
    have Hc := Lib.hid (spanNow_any w r a b hr)
    rw [← hx0, ← hb0] at Hc
    have Hx0 := Lib.hid hx0
    have Hb0 := Lib.hid hb0
    have Hfin := Lib.hid fun q => (CurTo.refl H.out).more (Grow.drewN w q)
    clear hx0 hb0 hg hr hlt fg fr hd ha hb
    go_enter Try.func28, Try.ntmps28
    go_wp2_with fail
    refine Hc.out.mono ?_
    rintro e w1 ⟨rfl, q1, rfl⟩
    go_wp2
    go_ret2
    exact ⟨by rw [← Hx0.out, ← Hb0.out]; rfl, Hfin.out _⟩
  | meet g A n c ks hg fg gk hv hk =>
    have hc := hg.cell 0
    have hm := m_meetNow A n c
    obtain ⟨x0, hx0⟩ : ∃ x, x = (meetL (ks.map (·.l))).headD 0 := ⟨_, rfl⟩
    obtain ⟨b0, hb0⟩ : ∃ z, z = !(meetL (ks.map (·.l))).isEmpty := ⟨_, rfl⟩
    have Hc := Lib.hid (show Calls Try.prog 56 #[.slice A n c] w fun e w' => e = .returned (.tuple #[.int .i64 ((meetL (ks.map (·.l))).headD 0), .bool (!(meetL (ks.map (·.l))).isEmpty)]) ∧ ∃ ks', KidsTo d w ks w' ks' ∧ meetL (ks'.map (·.l)) = meetL (ks.map (·.l)) from meetNow_any hd w F A n c ks hv hk)
    rw [← hx0, ← hb0] at Hc
    have Hx0 := Lib.hid hx0
    have Hb0 := Lib.hid hb0
    have Hfin := Lib.hid (show ∀ (w1 : World) (ks1 : List Kid), KidsTo d w ks w1 ks1 → meetL (ks1.map (·.l)) = meetL (ks.map (·.l)) → CurTo (d + 1) w (.pointer (some ⟨g, 0, none⟩)) (meetL (ks.map (·.l))) F w1 from fun w1 ks1 h1 h2 => by
      rw [← h2]
      exact meet_close fg hlt gk hk h1 hg hv (by rw [h2]; exact H.out.wide))
    clear hx0 hb0 hg hlt fg gk hv hk hd
    go_enter Try.func28, Try.ntmps28
    go_wp2_with fail
    refine Hc.out.mono ?_
    rintro e w1 ⟨rfl, ks1, h1, h2⟩
    have Hto := Lib.hid (Hfin.out w1 ks1 h1 h2)
    clear h1 h2
    go_wp2
    go_ret2
    exact ⟨by rw [← Hx0.out, ← Hb0.out]; rfl, Hto.out⟩
  | join g A n c ks hg fg gk hv hk =>
    have hc := hg.cell 0
    have hm := m_joinNow A n c
    obtain ⟨x0, hx0⟩ : ∃ x, x = (joinL (ks.map (·.l))).headD 0 := ⟨_, rfl⟩
    obtain ⟨b0, hb0⟩ : ∃ z, z = !(joinL (ks.map (·.l))).isEmpty := ⟨_, rfl⟩
    have Hc := Lib.hid (show Calls Try.prog 62 #[.slice A n c] w fun e w' => e = .returned (.tuple #[.int .i64 ((joinL (ks.map (·.l))).headD 0), .bool (!(joinL (ks.map (·.l))).isEmpty)]) ∧ ∃ ks', KidsTo d w ks w' ks' ∧ ks'.map (·.l) = ks.map (·.l) from joinNow_any hd w F A n c ks hv hk)
    rw [← hx0, ← hb0] at Hc
    have Hx0 := Lib.hid hx0
    have Hb0 := Lib.hid hb0
    have Hfin := Lib.hid (show ∀ (w1 : World) (ks1 : List Kid), KidsTo d w ks w1 ks1 → ks1.map (·.l) = ks.map (·.l) → CurTo (d + 1) w (.pointer (some ⟨g, 0, none⟩)) (joinL (ks.map (·.l))) F w1 from fun w1 ks1 h1 h2 => by
      rw [← h2]
      exact join_close fg hlt gk hk h1 hg hv (by rw [h2]; exact H.out.wide))
    clear hx0 hb0 hg hlt fg gk hv hk hd
    go_enter Try.func28, Try.ntmps28
    go_wp2_with fail
    refine Hc.out.mono ?_
    rintro e w1 ⟨rfl, ks1, h1, h2⟩
    have Hto := Lib.hid (Hfin.out w1 ks1 h1 h2)
    clear h1 h2
    go_wp2
    go_ret2
    exact ⟨by rw [← Hx0.out, ← Hb0.out]; rfl, Hto.out⟩
  | less g a b hg fg gk hk =>
    have hc := hg.cell 0
    have hm := m_lessNow a.v b.v
    obtain ⟨x0, hx0⟩ : ∃ x, x = (lessL a.l b.l).headD 0 := ⟨_, rfl⟩
    obtain ⟨b0, hb0⟩ : ∃ z, z = !(lessL a.l b.l).isEmpty := ⟨_, rfl⟩
    have Hc := Lib.hid (show Calls Try.prog 58 #[.agg #[a.v, b.v]] w fun e w' => e = .returned (.tuple #[.int .i64 ((lessL a.l b.l).headD 0), .bool (!(lessL a.l b.l).isEmpty)]) ∧ ∃ a' b', KidsTo d w [a, b] w' [a', b'] ∧ lessL a'.l b'.l = lessL a.l b.l from lessNow_any hd w F a b hk)
    rw [← hx0, ← hb0] at Hc
    have Hx0 := Lib.hid hx0
    have Hb0 := Lib.hid hb0
    have Hfin := Lib.hid (show ∀ (w1 : World) (a1 b1 : Kid), KidsTo d w [a, b] w1 [a1, b1] → lessL a1.l b1.l = lessL a.l b.l → CurTo (d + 1) w (.pointer (some ⟨g, 0, none⟩)) (lessL a.l b.l) F w1 from fun w1 a1 b1 h1 h2 => by
      rw [← h2]
      exact less_close fg hlt gk hk h1 hg (by rw [h2]; exact H.out.wide))
    clear hx0 hb0 hg hlt fg gk hk hd
    go_enter Try.func28, Try.ntmps28
    go_wp2_with fail
    refine Hc.out.mono ?_
    rintro e w1 ⟨rfl, a1, b1, h1, h2⟩
    have Hto := Lib.hid (Hfin.out w1 a1 b1 h1 h2)
    clear h1 h2
    go_wp2
    go_ret2
    exact ⟨by rw [← Hx0.out, ← Hb0.out]; rfl, Hto.out⟩
set_option maxRecDepth 100000 in
set_option maxHeartbeats 4000000 in
theorem seekStep {d : Nat} (hd : CurOk d) (w : World) (v : Value) (L : List Int) (F : Nat → Prop) (x : Int) (hx : W64 x) (h : Cur (d + 1) w v L F) : Calls Try.prog 26 #[v, .int .i64 x] w (MovTo (d + 1) w v (seek x L) F) := by
  have H := Lib.hid h
  have hs : CurStep (Cur d) w F v L := CurAt.step h
  have hlt : ∀ j, F j → j < w.heap.size := CurAt.lt h
  clear h
  cases hs with
  | nil =>
    go_enter Try.func26, Try.ntmps26
    go_wp2
    go_end0
    exact ⟨rfl, CurTo.refl H.out⟩
  | row g r A n c L hg hr fg fr hn hv =>
    have hc := hg.cell 0
    have hm := m_rowSeek r
    have Hc := Lib.hid (rowSeek_any w r F A n c L x hr hv H.out.up hn)
    have Hfin := Lib.hid (show ∀ (w1 : World) (A' : Option Addr) (n' c' : Nat), n' ≤ n → VecAt w F A' n' c' ((seek x L).map i64v) → w1 = w.setCell ⟨r, 0, none⟩ (.slice A' n' c') → CurTo (d + 1) w (.pointer (some ⟨g, 0, none⟩)) (seek x L) F w1 from fun w1 A' n' c' h1 h2 h3 => by
      have hk := Keep.setCell w ⟨r, 0, none⟩ (.slice A' n' c')
      rw [← h3] at hk
      have hr1 : Blk w1 r 65 #[.slice A' n' c'] := by rw [h3]; exact hr.set 0 _
      have hne : g ≠ r := fun e => by
        subst e
        have := hg.symm.trans hr
        injection this with this
        injection this with _ h4
        exact absurd h4 (by decide)
      have hv1 : VecAt w1 F A' n' c' ((seek x L).map i64v) := ⟨h2.len, h2.cap, h2.top, fun hn' => by
        obtain ⟨b, off, e1, e2, e3, e4⟩ := h2.at_ hn'
        have hbr : b ≠ r := fun e => by
          subst e
          have h5 := e4 0 _ (List.getElem?_eq_getElem (by rw [h2.len]; exact hn'))
          rw [hr.cell] at h5
          cases off with
          | zero => simp [i64v] at h5
          | succ o => simp at h5
        exact ⟨b, off, e1, e2, Nat.lt_of_lt_of_le e3 hk.size, fun j v hv => (hk.cell (p := ⟨b, off + j, none⟩) e3 hbr).trans (e4 j v hv)⟩⟩
      exact ⟨F, ⟨.row g r A' n' c' _ (hk.blk hg hne) hr1 fg fr (Nat.le_trans h1 hn) hv1, up_seek H.out.up, fun y hy => H.out.wide y ((mem_seek H.out.up).1 hy).1, fun j hj => Nat.lt_of_lt_of_le (hlt j hj) hk.size⟩, hk.mono fun j hj => Or.inl (by rw [show j = r from hj]; exact fr), fun j hj => Or.inl hj⟩)
    clear hg hr hv hlt fg fr hn hd hx
    go_enter Try.func26, Try.ntmps26
    go_wp2_with fail
    refine Hc.out.mono ?_
    rintro e w1 ⟨rfl, A', n', c', h1, h2, h3⟩
    have Hto := Lib.hid (Hfin.out w1 A' n' c' h1 h2 h3)
    clear h1 h2 h3
    go_wp2
    go_end0
    exact ⟨rfl, Hto.out⟩
  | span g r a b hg hr fg fr ha hb =>
    have hc := hg.cell 0
    have hm := m_spanSeek r
    have Hc := Lib.hid (spanSeek_any w r a b x hr)
    have Hfin := Lib.hid (show ∀ (w1 : World), w1 = w.setCell ⟨r, 0, none⟩ (.int .i64 (max a x)) → CurTo (d + 1) w (.pointer (some ⟨g, 0, none⟩)) (seek x (spanL a b)) F w1 from fun w1 h3 => by
      have hk := Keep.setCell w ⟨r, 0, none⟩ (.int .i64 (max a x))
      rw [← h3] at hk
      have hr1 : Blk w1 r 77 #[.int .i64 (max a x), .int .i64 b] := by rw [h3]; exact hr.set 0 _
      have hne : g ≠ r := fun e => by
        subst e
        have := hg.symm.trans hr
        injection this with this
        injection this with _ h4
        exact absurd h4 (by decide)
      rw [seek_span]
      refine ⟨F, ⟨.span g r (max a x) b (hk.blk hg hne) hr1 fg fr (by unfold W64 at *; omega) hb, up_span _ _, fun y hy => ?_, fun j hj => Nat.lt_of_lt_of_le (hlt j hj) hk.size⟩, hk.mono fun j hj => Or.inl (by rw [show j = r from hj]; exact fr), fun j hj => Or.inl hj⟩
      have := mem_span.1 hy
      exact H.out.wide y (mem_span.2 ⟨by omega, this.2⟩))
    clear hg hr hlt fg fr hd ha hb hx
    go_enter Try.func26, Try.ntmps26
    go_wp2_with fail
    refine Hc.out.mono ?_
    rintro e w1 ⟨rfl, h3⟩
    have Hto := Lib.hid (Hfin.out w1 h3)
    clear h3
    go_wp2
    go_end0
    exact ⟨rfl, Hto.out⟩
  | meet g A n c ks hg fg gk hv hk =>
    have hc := hg.cell 0
    have hm := m_meetSeek A n c
    have Hc := Lib.hid (meetSeek_any hd w F A n c ks x hx hv hk)
    have Hfin := Lib.hid (show ∀ (w1 : World) (ks1 : List Kid), KidsTo d w ks w1 ks1 → ks1.map (·.l) = (ks.map (·.l)).map (seek x) → CurTo (d + 1) w (.pointer (some ⟨g, 0, none⟩)) (seek x (meetL (ks.map (·.l)))) F w1 from fun w1 ks1 h1 h2 => by
      have e : seek x (meetL (ks.map (·.l))) = meetL (ks1.map (·.l)) := by rw [h2, meet_seek (KidsTo.refl hk).ups]
      rw [e]
      exact meet_close fg hlt gk hk h1 hg hv (fun y hy => by
        rw [← e] at hy
        exact H.out.wide y ((mem_seek H.out.up).1 hy).1))
    clear hg hlt fg gk hv hk hd hx
    go_enter Try.func26, Try.ntmps26
    go_wp2_with fail
    refine Hc.out.mono ?_
    rintro e w1 ⟨rfl, ks1, h1, h2⟩
    have Hto := Lib.hid (Hfin.out w1 ks1 h1 h2)
    clear h1 h2
    go_wp2
    go_end0
    exact ⟨rfl, Hto.out⟩
  | join g A n c ks hg fg gk hv hk =>
    have hc := hg.cell 0
    have hm := m_joinSeek A n c
    have Hc := Lib.hid (joinSeek_any hd w F A n c ks x hx hv hk)
    have Hfin := Lib.hid (show ∀ (w1 : World) (ks1 : List Kid), KidsTo d w ks w1 ks1 → ks1.map (·.l) = (ks.map (·.l)).map (seek x) → CurTo (d + 1) w (.pointer (some ⟨g, 0, none⟩)) (seek x (joinL (ks.map (·.l)))) F w1 from fun w1 ks1 h1 h2 => by
      have e : seek x (joinL (ks.map (·.l))) = joinL (ks1.map (·.l)) := by rw [h2, join_seek (KidsTo.refl hk).ups]
      rw [e]
      exact join_close fg hlt gk hk h1 hg hv (fun y hy => by
        rw [← e] at hy
        exact H.out.wide y ((mem_seek H.out.up).1 hy).1))
    clear hg hlt fg gk hv hk hd hx
    go_enter Try.func26, Try.ntmps26
    go_wp2_with fail
    refine Hc.out.mono ?_
    rintro e w1 ⟨rfl, ks1, h1, h2⟩
    have Hto := Lib.hid (Hfin.out w1 ks1 h1 h2)
    clear h1 h2
    go_wp2
    go_end0
    exact ⟨rfl, Hto.out⟩
  | less g a b hg fg gk hk =>
    have hc := hg.cell 0
    have hm := m_lessSeek a.v b.v
    have Hc := Lib.hid (lessSeek_any hd w F a b x hx hk)
    have Hfin := Lib.hid (show ∀ (w1 : World) (a1 b1 : Kid), KidsTo d w [a, b] w1 [a1, b1] → a1.l = seek x a.l → b1.l = b.l → CurTo (d + 1) w (.pointer (some ⟨g, 0, none⟩)) (seek x (lessL a.l b.l)) F w1 from fun w1 a1 b1 h1 h2 h3 => by
      have e : seek x (lessL a.l b.l) = lessL a1.l b1.l := by rw [h2, h3, less_seek ((KidsTo.refl hk).ups _ (by simp))]
      rw [e]
      exact less_close fg hlt gk hk h1 hg (fun y hy => by
        rw [← e] at hy
        exact H.out.wide y ((mem_seek H.out.up).1 hy).1))
    clear hg hlt fg gk hk hd hx
    go_enter Try.func26, Try.ntmps26
    go_wp2_with fail
    refine Hc.out.mono ?_
    rintro e w1 ⟨rfl, a1, b1, h1, h2, h3⟩
    have Hto := Lib.hid (Hfin.out w1 a1 b1 h1 h2 h3)
    clear h1 h2 h3
    go_wp2
    go_end0
    exact ⟨rfl, Hto.out⟩
theorem curOk : ∀ d, CurOk d
  | 0 => ⟨fun _ _ _ _ h => h.elim, fun _ _ _ _ _ h _ => h.elim⟩
  | d + 1 => ⟨fun w v L F h => nowStep (curOk d) w v L F h, fun w v L F x h hx => seekStep (curOk d) w v L F x hx h⟩
end Go.Proofs.Ythjnggclemhgkaa
