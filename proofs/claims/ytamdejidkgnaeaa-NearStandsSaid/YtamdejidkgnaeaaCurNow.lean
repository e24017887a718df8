/-
  The walks of a Cursor's Now, Seek and Next, over whatever others it is made, however deep.
-/
import Derived.Test.YtamdejidkgnaeaaCurMeet
namespace Go.Proofs.Ytamdejidkgnaeaa
open Go.RowKit CurM
set_option linter.unusedVariables false

section
variable {d : Nat} {w w' : World} {v : Value} {L : List Int} {F : Nat → Prop}
/-- a cursor with numbers left is one that is -/
theorem Cur.ptr {x : Int} {t : List Int} (h : Cur d w v (x :: t) F) : ∃ g mv, v = .pointer (some ⟨g, 0, none⟩) ∧ Blk w g 82 #[mv] ∧ F g := by
  obtain ⟨e, rfl⟩ := h.pos
  have hs : CurStep (Cur e) w F v (x :: t) := CurAt.step h
  generalize hL : x :: t = L at hs
  cases hs with
  | nil => cases hL
  | row g r A n c L hg hr fg fr hn hv => exact ⟨g, _, rfl, hg, fg⟩
  | span g r a b hg hr fg fr ha hb => exact ⟨g, _, rfl, hg, fg⟩
  | meet g A n c ks hg fg gk hv hk => exact ⟨g, _, rfl, hg, fg⟩
end
set_option maxRecDepth 100000 in
set_option maxHeartbeats 2000000 in
theorem past_any {d : Nat} (hd : CurOk d) (w : World) (v : Value) (x : Int) (t : List Int) (F : Nat → Prop) (h : Cur d w v (x :: t) F) : Calls Try.prog 59 #[v, .int .i64 x] w (MovTo d w v t F) := by
  have hw : W64 x := h.wide x (by simp)
  obtain ⟨hw1, hw2⟩ := hw
  have Hd := Lib.hid hd
  have H := Lib.hid h
  clear hd h
  have Hc := Lib.hid (Hd.out.seek w v (x :: t) F x H.out ⟨hw1, hw2⟩)
  go_enter Try.func59, Try.ntmps59
  go_wp2_with fail
  refine Hc.out.mono ?_
  rintro e w1 ⟨rfl, hto⟩
  rw [seek_head] at hto
  obtain ⟨F1, h1, k1, f1⟩ := hto
  have H1 := Lib.hid h1
  have K1 := Lib.hid k1
  have Hf1 := Lib.hid f1
  clear h1 k1 f1 Hc
  by_cases hx : x < 9223372036854775807
  · have d1 : decide (x < x + 1) = true := decide_eq_true (by omega)
    have Hc := Lib.hid (Hd.out.seek w1 v (x :: t) F1 (x + 1) H1.out ⟨by omega, by omega⟩)
    rw [seek_next H.out.up] at Hc
    go_wp2_with fail
    refine Hc.out.mono ?_
    rintro e w2 ⟨rfl, hto⟩
    have Hto := Lib.hid (CurTo.trans K1.out Hf1.out hto)
    clear hto Hc
    go_wp2
    go_end0
    exact ⟨rfl, Hto.out⟩
  · have ht : t = [] := by
      cases t with
      | nil => rfl
      | cons y s =>
        have h1 := (up_cons.1 H.out.up).1 y (by simp)
        have h2 := (H.out.wide y (by simp)).2
        omega
    subst ht
    have e1 : wrap64 (x + 1) = -9223372036854775808 := by
      have : x = 9223372036854775807 := by omega
      unfold wrap64
      omega
    have d1 : decide (x < wrap64 (x + 1)) = false := by rw [e1]; exact decide_eq_false (by omega)
    clear e1
    obtain ⟨g, mv, rfl, hg, fg⟩ := H1.out.ptr
    have hf := hg.frozen 0
    have hc := hg.cell 0
    have hlt := hg.lt
    have Hg := Lib.hid hg
    clear hg
    go_wp2
    go_end0
    have hb : Blk ((w1.setCell ⟨g, 0, none⟩ (.iface 119 (.pointer (some ⟨w1.heap.size, 0, none⟩)))).alloc (.cells #[.int .i64 0, .int .i64 0] 121)) g 82 #[.iface 119 (.pointer (some ⟨w1.heap.size, 0, none⟩))] := (Hg.out.set 0 _).alloc _
    have hr : Blk ((w1.setCell ⟨g, 0, none⟩ (.iface 119 (.pointer (some ⟨w1.heap.size, 0, none⟩)))).alloc (.cells #[.int .i64 0, .int .i64 0] 121)) w1.heap.size 121 #[.int .i64 0, .int .i64 0] := by
      have h := Blk.new (w1.setCell ⟨g, 0, none⟩ (.iface 119 (.pointer (some ⟨w1.heap.size, 0, none⟩)))) 121 #[.int .i64 0, .int .i64 0]
      rwa [size_setCell] at h
    have hk : Keep F1 w1 ((w1.setCell ⟨g, 0, none⟩ (.iface 119 (.pointer (some ⟨w1.heap.size, 0, none⟩)))).alloc (.cells #[.int .i64 0, .int .i64 0] 121)) :=
      ((Keep.setCell w1 ⟨g, 0, none⟩ _).trans (Keep.alloc (S := fun _ => False) _ _) fun _ h => h.elim).mono fun j hj => Or.inl (by rw [show j = g from hj]; exact fg)
    obtain ⟨e, rfl⟩ := H1.out.pos
    refine ⟨rfl, CurTo.trans K1.out Hf1.out ⟨fun j => F1 j ∨ j = w1.heap.size, ⟨?_, up_nil, by simp, fun j hj => ?_⟩, hk, fun j hj => ?_⟩⟩
    · exact .span g w1.heap.size 0 0 hb hr (Or.inl fg) (Or.inr rfl) (by unfold W64; omega) (by unfold W64; omega)
    · rcases hj with hj | hj
      · exact Nat.lt_of_lt_of_le (H1.out.lt j hj) hk.size
      · rw [hj]
        exact hr.lt
    · rcases hj with hj | hj
      · exact Or.inl hj
      · exact Or.inr (Nat.le_of_eq hj.symm)
set_option maxRecDepth 100000 in
set_option maxHeartbeats 2000000 in
theorem next_any {d : Nat} (hd : CurOk d) (w : World) (v : Value) (L : List Int) (F : Nat → Prop) (h : Cur d w v L F) : Calls Try.prog 46 #[v] w (MovTo d w v L.tail F) := by
  have Hd := Lib.hid hd
  have H := Lib.hid h
  clear hd h
  have Hc := Lib.hid (Hd.out.now w v L F H.out)
  cases L with
  | nil =>
    go_enter Try.func46, Try.ntmps46
    go_wp2_with fail
    refine Hc.out.mono ?_
    rintro e w1 ⟨rfl, hto⟩
    have Hto := Lib.hid hto
    clear hto Hc
    go_wp2
    go_end0
    exact ⟨rfl, Hto.out⟩
  | cons x t =>
    go_enter Try.func46, Try.ntmps46
    go_wp2_with fail
    refine Hc.out.mono ?_
    rintro e w1 ⟨rfl, F1, h1, k1, f1⟩
    have K1 := Lib.hid k1
    have Hf1 := Lib.hid f1
    have Hp := Lib.hid (past_any Hd.out w1 v x t F1 h1)
    clear h1 k1 f1 Hc
    go_wp2_with fail
    refine Hp.out.mono ?_
    rintro e w2 ⟨rfl, hto⟩
    have Hto := Lib.hid (CurTo.trans K1.out Hf1.out hto)
    clear hto Hp
    go_wp2
    go_end0
    exact ⟨rfl, Hto.out⟩
/-- the moves of two cursors, from a world a little ahead -/
theorem KidsTo.base {d : Nat} {w w0 w1 : World} {ks0 ks : List Kid} (hg : Grow w w0) (h : KidsTo d w0 ks0 w1 ks) : KidsTo d w ks0 w1 ks :=
  ⟨h.each, h.apart, h.vals, (Keep.grow (S := fun j => ∃ k ∈ ks0, k.f j) hg).trans h.keep fun _ hj => Or.inl hj, fun k hk j hj => by
    rcases h.from_ k hk j hj with h1 | h1
    · exact Or.inl h1
    · exact Or.inr (Nat.le_trans hg.size h1)⟩
theorem KidsTo.two {d : Nat} {w0 w : World} {a b : Kid} {ks : List Kid} (h : KidsTo d w0 [a, b] w ks) : ∃ a' b', ks = [a', b'] ∧ a'.v = a.v ∧ b'.v = b.v := by
  have h1 := h.vals
  match ks, h1 with
  | [a', b'], h1 =>
    simp only [List.map_cons, List.map_nil, List.cons.injEq, and_true] at h1
    exact ⟨a', b', rfl, h1.1, h1.2⟩
  | [], h1 => simp at h1
  | [_], h1 => simp at h1
  | _ :: _ :: _ :: _, h1 => simp at h1
theorem KidsTo.moveA {d : Nat} {w0 w w' : World} {ks0 : List Kid} {a b : Kid} {L' : List Int} (h : KidsTo d w0 ks0 w [a, b]) (hc : CurTo d w a.v L' a.f w') : ∃ a' b', KidsTo d w0 ks0 w' [a', b'] ∧ a'.v = a.v ∧ b'.v = b.v ∧ a'.l = L' ∧ b'.l = b.l := by
  obtain ⟨a', h1, h2, h3⟩ := h.step (i := 0) rfl hc
  exact ⟨a', b, h3, h1, rfl, h2, rfl⟩
theorem KidsTo.moveB {d : Nat} {w0 w w' : World} {ks0 : List Kid} {a b : Kid} {L' : List Int} (h : KidsTo d w0 ks0 w [a, b]) (hc : CurTo d w b.v L' b.f w') : ∃ a' b', KidsTo d w0 ks0 w' [a', b'] ∧ a'.v = a.v ∧ b'.v = b.v ∧ a'.l = a.l ∧ b'.l = L' := by
  obtain ⟨b', h1, h2, h3⟩ := h.step (i := 1) rfl hc
  exact ⟨a, b', h3, rfl, h1, rfl, h2⟩
/-- what stands in one and not in the other: what is told, what becomes of them -/
def LessTo (d : Nat) (w : World) (a b : Kid) (L : List Int) (e : Ending) (w' : World) : Prop := e = .returned (.tuple #[.int .i64 (L.headD 0), .bool (!L.isEmpty)]) ∧ ∃ a' b', KidsTo d w [a, b] w' [a', b'] ∧ lessL a'.l b'.l = L
theorem m_rowNow (r : Nat) (k : Nat) (w : World) : (method (k + 1) 78 (.pointer (some ⟨r, 0, none⟩)) "mudlark/cursor.now").run Try.prog w = .ok (83, .pointer (some ⟨r, 0, none⟩)) w := by kernel_rfl
theorem m_spanNow (r : Nat) (k : Nat) (w : World) : (method (k + 1) 119 (.pointer (some ⟨r, 0, none⟩)) "mudlark/cursor.now").run Try.prog w = .ok (90, .pointer (some ⟨r, 0, none⟩)) w := by kernel_rfl
theorem m_meetNow (A : Option Addr) (n c : Nat) (k : Nat) (w : World) : (method (k + 1) 83 (.slice A n c) "mudlark/cursor.now").run Try.prog w = .ok (88, .slice A n c) w := by kernel_rfl
theorem m_rowSeek (r : Nat) (k : Nat) (w : World) : (method (k + 1) 78 (.pointer (some ⟨r, 0, none⟩)) "mudlark/cursor.seek").run Try.prog w = .ok (84, .pointer (some ⟨r, 0, none⟩)) w := by kernel_rfl
theorem m_spanSeek (r : Nat) (k : Nat) (w : World) : (method (k + 1) 119 (.pointer (some ⟨r, 0, none⟩)) "mudlark/cursor.seek").run Try.prog w = .ok (91, .pointer (some ⟨r, 0, none⟩)) w := by kernel_rfl
theorem m_meetSeek (A : Option Addr) (n c : Nat) (k : Nat) (w : World) : (method (k + 1) 83 (.slice A n c) "mudlark/cursor.seek").run Try.prog w = .ok (89, .slice A n c) w := by kernel_rfl
set_option maxRecDepth 100000 in
set_option maxHeartbeats 4000000 in
theorem nowStep {d : Nat} (hd : CurOk d) (w : World) (v : Value) (L : List Int) (F : Nat → Prop) (h : Cur (d + 1) w v L F) : Calls Try.prog 45 #[v] w (NowTo (d + 1) w v L F) := by
  have H := Lib.hid h
  have hs : CurStep (Cur d) w F v L := CurAt.step h
  have hlt : ∀ j, F j → j < w.heap.size := CurAt.lt h
  clear h
  cases hs with
  | nil =>
    go_enter Try.func45, Try.ntmps45
    go_wp2
    go_ret2
    exact ⟨rfl, CurTo.refl H.out⟩
  | row g r A n c L hg hr fg fr hn hv =>
    have hc := hg.cell 0
    have hm := m_rowNow r
    obtain ⟨x0, hx0⟩ : ∃ x, x = L.headD 0 := ⟨_, rfl⟩
    obtain ⟨b0, hb0⟩ : ∃ z, z = !L.isEmpty := ⟨_, rfl⟩
    have Hc := Lib.hid (rowNow_any w r F A n c L hr hv)
    rw [← hx0, ← hb0] at Hc
    have Hx0 := Lib.hid hx0
    have Hb0 := Lib.hid hb0
    have Hfin := Lib.hid (CurTo.refl H.out)
    clear hx0 hb0 hg hr hv hlt fg fr hd
    go_enter Try.func45, Try.ntmps45
    go_wp2_with fail
    refine Hc.out.mono ?_
    rintro e w1 ⟨rfl, rfl⟩
    go_wp2
    go_ret2
    exact ⟨by rw [← Hx0.out, ← Hb0.out]; rfl, Hfin.out⟩
  | span g r a b hg hr fg fr ha hb =>
    have hc := hg.cell 0
    have hm := m_spanNow r
    obtain ⟨x0, hx0⟩ : ∃ x, x = (spanL a b).headD 0 := ⟨_, rfl⟩
    obtain ⟨b0, hb0⟩ : ∃ z, z = !(spanL a b).isEmpty := ⟨_, rfl⟩
    have Hc := Lib.hid (spanNow_any w r a b hr)
    rw [← hx0, ← hb0] at Hc
    have Hx0 := Lib.hid hx0
    have Hb0 := Lib.hid hb0
    have Hfin := Lib.hid fun q => (CurTo.refl H.out).more (Grow.drewN w q)
    clear hx0 hb0 hg hr hlt fg fr hd ha hb
    go_enter Try.func45, Try.ntmps45
    go_wp2_with fail
    refine Hc.out.mono ?_
    rintro e w1 ⟨rfl, q1, rfl⟩
    go_wp2
    go_ret2
    exact ⟨by rw [← Hx0.out, ← Hb0.out]; rfl, Hfin.out _⟩
  | meet g A n c ks hg fg gk hv hk =>
    have hc := hg.cell 0
    have hm := m_meetNow A n c
    obtain ⟨x0, hx0⟩ : ∃ x, x = (meetL (ks.map (·.l))).headD 0 := ⟨_, rfl⟩
    obtain ⟨b0, hb0⟩ : ∃ z, z = !(meetL (ks.map (·.l))).isEmpty := ⟨_, rfl⟩
    have Hc := Lib.hid (show Calls Try.prog 88 #[.slice A n c] w fun e w' => e = .returned (.tuple #[.int .i64 ((meetL (ks.map (·.l))).headD 0), .bool (!(meetL (ks.map (·.l))).isEmpty)]) ∧ ∃ ks', KidsTo d w ks w' ks' ∧ meetL (ks'.map (·.l)) = meetL (ks.map (·.l)) from meetNow_any hd w F A n c ks hv hk)
    rw [← hx0, ← hb0] at Hc
    have Hx0 := Lib.hid hx0
    have Hb0 := Lib.hid hb0
    have Hfin := Lib.hid (show ∀ (w1 : World) (ks1 : List Kid), KidsTo d w ks w1 ks1 → meetL (ks1.map (·.l)) = meetL (ks.map (·.l)) → CurTo (d + 1) w (.pointer (some ⟨g, 0, none⟩)) (meetL (ks.map (·.l))) F w1 from fun w1 ks1 h1 h2 => by
      rw [← h2]
      exact meet_close fg hlt gk hk h1 hg hv (by rw [h2]; exact H.out.wide))
    clear hx0 hb0 hg hlt fg gk hv hk hd
    go_enter Try.func45, Try.ntmps45
    go_wp2_with fail
    refine Hc.out.mono ?_
    rintro e w1 ⟨rfl, ks1, h1, h2⟩
    have Hto := Lib.hid (Hfin.out w1 ks1 h1 h2)
    clear h1 h2
    go_wp2
    go_ret2
    exact ⟨by rw [← Hx0.out, ← Hb0.out]; rfl, Hto.out⟩
set_option maxRecDepth 100000 in
set_option maxHeartbeats 4000000 in
theorem seekStep {d : Nat} (hd : CurOk d) (w : World) (v : Value) (L : List Int) (F : Nat → Prop) (x : Int) (hx : W64 x) (h : Cur (d + 1) w v L F) : Calls Try.prog 66 #[v, .int .i64 x] w (MovTo (d + 1) w v (seek x L) F) := by
  have H := Lib.hid h
  have hs : CurStep (Cur d) w F v L := CurAt.step h
  have hlt : ∀ j, F j → j < w.heap.size := CurAt.lt h
  clear h
  cases hs with
  | nil =>
    go_enter Try.func66, Try.ntmps66
    go_wp2
    go_end0
    exact ⟨rfl, CurTo.refl H.out⟩
  | row g r A n c L hg hr fg fr hn hv =>
    have hc := hg.cell 0
    have hm := m_rowSeek r
    have Hc := Lib.hid (rowSeek_any w r F A n c L x hr hv H.out.up hn)
    have Hfin := Lib.hid (show ∀ (w1 : World) (A' : Option Addr) (n' c' : Nat), n' ≤ n → VecAt w F A' n' c' ((seek x L).map i64v) → w1 = w.setCell ⟨r, 0, none⟩ (.slice A' n' c') → CurTo (d + 1) w (.pointer (some ⟨g, 0, none⟩)) (seek x L) F w1 from fun w1 A' n' c' h1 h2 h3 => by
      have hk := Keep.setCell w ⟨r, 0, none⟩ (.slice A' n' c')
      rw [← h3] at hk
      have hr1 : Blk w1 r 77 #[.slice A' n' c'] := by rw [h3]; exact hr.set 0 _
      have hne : g ≠ r := fun e => by
        subst e
        have := hg.symm.trans hr
        injection this with this
        injection this with _ h4
        exact absurd h4 (by decide)
      have hv1 : VecAt w1 F A' n' c' ((seek x L).map i64v) := ⟨h2.len, h2.cap, h2.top, fun hn' => by
        obtain ⟨b, off, e1, e2, e3, e4⟩ := h2.at_ hn'
        have hbr : b ≠ r := fun e => by
          subst e
          have h5 := e4 0 _ (List.getElem?_eq_getElem (by rw [h2.len]; exact hn'))
          rw [hr.cell] at h5
          cases off with
          | zero => simp [i64v] at h5
          | succ o => simp at h5
        exact ⟨b, off, e1, e2, Nat.lt_of_lt_of_le e3 hk.size, fun j v hv => (hk.cell (p := ⟨b, off + j, none⟩) e3 hbr).trans (e4 j v hv)⟩⟩
      exact ⟨F, ⟨.row g r A' n' c' _ (hk.blk hg hne) hr1 fg fr (Nat.le_trans h1 hn) hv1, up_seek H.out.up, fun y hy => H.out.wide y ((mem_seek H.out.up).1 hy).1, fun j hj => Nat.lt_of_lt_of_le (hlt j hj) hk.size⟩, hk.mono fun j hj => Or.inl (by rw [show j = r from hj]; exact fr), fun j hj => Or.inl hj⟩)
    clear hg hr hv hlt fg fr hn hd hx
    go_enter Try.func66, Try.ntmps66
    go_wp2_with fail
    refine Hc.out.mono ?_
    rintro e w1 ⟨rfl, A', n', c', h1, h2, h3⟩
    have Hto := Lib.hid (Hfin.out w1 A' n' c' h1 h2 h3)
    clear h1 h2 h3
    go_wp2
    go_end0
    exact ⟨rfl, Hto.out⟩
  | span g r a b hg hr fg fr ha hb =>
    have hc := hg.cell 0
    have hm := m_spanSeek r
    have Hc := Lib.hid (spanSeek_any w r a b x hr)
    have Hfin := Lib.hid (show ∀ (w1 : World), w1 = w.setCell ⟨r, 0, none⟩ (.int .i64 (max a x)) → CurTo (d + 1) w (.pointer (some ⟨g, 0, none⟩)) (seek x (spanL a b)) F w1 from fun w1 h3 => by
      have hk := Keep.setCell w ⟨r, 0, none⟩ (.int .i64 (max a x))
      rw [← h3] at hk
      have hr1 : Blk w1 r 121 #[.int .i64 (max a x), .int .i64 b] := by rw [h3]; exact hr.set 0 _
      have hne : g ≠ r := fun e => by
        subst e
        have := hg.symm.trans hr
        injection this with this
        injection this with _ h4
        exact absurd h4 (by decide)
      rw [seek_span]
      refine ⟨F, ⟨.span g r (max a x) b (hk.blk hg hne) hr1 fg fr (by unfold W64 at *; omega) hb, up_span _ _, fun y hy => ?_, fun j hj => Nat.lt_of_lt_of_le (hlt j hj) hk.size⟩, hk.mono fun j hj => Or.inl (by rw [show j = r from hj]; exact fr), fun j hj => Or.inl hj⟩
      have := mem_span.1 hy
      exact H.out.wide y (mem_span.2 ⟨by omega, this.2⟩))
    clear hg hr hlt fg fr hd ha hb hx
    go_enter Try.func66, Try.ntmps66
    go_wp2_with fail
    refine Hc.out.mono ?_
    rintro e w1 ⟨rfl, h3⟩
    have Hto := Lib.hid (Hfin.out w1 h3)
    clear h3
    go_wp2
    go_end0
    exact ⟨rfl, Hto.out⟩
  | meet g A n c ks hg fg gk hv hk =>
    have hc := hg.cell 0
    have hm := m_meetSeek A n c
    have Hc := Lib.hid (meetSeek_any hd w F A n c ks x hx hv hk)
    have Hfin := Lib.hid (show ∀ (w1 : World) (ks1 : List Kid), KidsTo d w ks w1 ks1 → ks1.map (·.l) = (ks.map (·.l)).map (seek x) → CurTo (d + 1) w (.pointer (some ⟨g, 0, none⟩)) (seek x (meetL (ks.map (·.l)))) F w1 from fun w1 ks1 h1 h2 => by
      have e : seek x (meetL (ks.map (·.l))) = meetL (ks1.map (·.l)) := by rw [h2, meet_seek (KidsTo.refl hk).ups]
      rw [e]
      exact meet_close fg hlt gk hk h1 hg hv (fun y hy => by
        rw [← e] at hy
        exact H.out.wide y ((mem_seek H.out.up).1 hy).1))
    clear hg hlt fg gk hv hk hd hx
    go_enter Try.func66, Try.ntmps66
    go_wp2_with fail
    refine Hc.out.mono ?_
    rintro e w1 ⟨rfl, ks1, h1, h2⟩
    have Hto := Lib.hid (Hfin.out w1 ks1 h1 h2)
    clear h1 h2
    go_wp2
    go_end0
    exact ⟨rfl, Hto.out⟩
theorem curOk : ∀ d, CurOk d
  | 0 => ⟨fun _ _ _ _ h => h.elim, fun _ _ _ _ _ h _ => h.elim⟩
  | d + 1 => ⟨fun w v L F h => nowStep (curOk d) w v L F h, fun w v L F x h hx => seekStep (curOk d) w v L F x hx h⟩
end Go.Proofs.Ytamdejidkgnaeaa
