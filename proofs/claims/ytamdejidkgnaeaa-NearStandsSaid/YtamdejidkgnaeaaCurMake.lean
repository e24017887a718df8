/-
  The walks of cursor's Of, Span, Meet, Join, Less: cursors that are made.
-/
import Derived.Lib.SliceRun
import Derived.Test.YtamdejidkgnaeaaCurNow
namespace Go.Proofs.Ytamdejidkgnaeaa
open Go.RowKit CurM
set_option linter.unusedVariables false

/-- a cursor that a call has made: its rest is L, its blocks are new ones, or of S -/
def CurNew (d : Nat) (w : World) (S : Nat → Prop) (L : List Int) (e : Ending) (w' : World) : Prop := ∃ v F, e = .returned v ∧ Cur d w' v L F ∧ (∀ j, F j → S j ∨ w.heap.size ≤ j) ∧ Grow w w'
theorem Cur.isPtr {d : Nat} {w : World} {v : Value} {L : List Int} {F : Nat → Prop} (h : Cur d w v L F) : ∃ p, v = .pointer p := by
  obtain ⟨e, rfl⟩ := h.pos
  have hs : CurStep (Cur e) w F v L := CurAt.step h
  cases hs with
  | nil => exact ⟨_, rfl⟩
  | row g r A n c L hg hr fg fr hn hv => exact ⟨_, rfl⟩
  | span g r a b hg hr fg fr ha hb => exact ⟨_, rfl⟩
  | meet g A n c ks hg fg gk hv hk => exact ⟨_, rfl⟩
set_option maxRecDepth 100000 in
set_option maxHeartbeats 1000000 in
/-- cursors' places, told anew -/
theorem cClone_any (w : World) (B : Nat) (A : Option Addr) (n c : Nat) (vs : List Value) (hR : ReadsAt w B 1 A n vs) (hB : B ≤ w.heap.size) (h1 : ∀ u ∈ vs, u.oneCell' = true) (hn : n ≤ 17592186044416) :
    Calls Try.prog 34 #[.slice A n c] w fun e w' => ∃ v, e = .returned v ∧ w'.ownsRow w.heap.size 58 1 v n vs ∧ Grow w w' := by
  have vecTy : AppTy Try.prog 57 58 (.pointer none) 1 8 := AppTy.mk' Try.underlying57 (by kernel_rfl) rfl (by decide)
  have heq := fun W a n c => Lib.run_eql_slice_nil (P := Try.prog) W 57 58 a n c 0 0 Try.underlying57
  cases A with
  | none =>
    have h0 : n = 0 := by
      rcases Nat.eq_zero_or_pos n with h | h
      · exact h
      · obtain ⟨b, off, e, _⟩ := hR.2 h
        cases e
    subst h0
    have hv : vs = [] := List.eq_nil_of_length_eq_zero (by rw [hR.1])
    subst hv
    go_enter Try.func34, Try.ntmps34
    go_wp2
    go_ret
    exact ⟨_, rfl, World.ownsRow_nil _ _ _ _, Grow.refl _⟩
  | some a =>
    have hg0 : Grow w (w.alloc (.cells #[] 58)) := Grow.alloc _ _
    have hown : (w.alloc (.cells #[] 58)).ownsRow w.heap.size 58 1 (.slice (some ⟨w.heap.size, 0, none⟩) 0 0) 0 [] := World.ownsRow_lit w #[] 0 (Nat.le_refl _) (by decide) rfl
    have hR' := hR.below (Below.mono hg0 hB)
    go_enter Try.func34, Try.ntmps34
    go_wp2_with (at_builtin; refine wpList_append_reads _ rfl (.tmp 5) (.tmp 6) rfl vecTy rfl hown rfl hR' h1 (by simp only [maxLen]; omega) (by omega) (by simp) ?_; intro v' w2 hown2 hgr2 hat2)
    rw [Nat.zero_add, List.nil_append] at hown2
    have hg2 : Grow w w2 := Below.trans hg0 ((Keep.grown hgr2).below (fun j hj => by have := (hown.lt j hj).1; exact this) hg0.size)
    have Hown := Lib.hid hown2
    have Hg2 := Lib.hid hg2
    clear hgr2 hat2 hown hR' hown2 hg2
    go_wp2
    go_ret
    exact ⟨_, rfl, Hown.out, Hg2.out⟩
set_option maxRecDepth 100000 in
set_option maxHeartbeats 1000000 in
theorem cMeet_any {d : Nat} (w : World) (S : Nat → Prop) (B : Nat) (A : Option Addr) (n c : Nat) (ks : List Kid) (hR : ReadsAt w B 1 A n (ks.map (·.v))) (hB : B ≤ w.heap.size) (hn : n ≤ 17592186044416) (hk : KidsAt (Cur d) w S ks) :
    Calls Try.prog 20 #[.slice A n c] w (CurNew (d + 1) w S (meetL (ks.map (·.l)))) := by
  have Hc := Lib.hid (cClone_any w B A n c (ks.map (·.v)) hR hB (fun u hu => by
    obtain ⟨k, hm, rfl⟩ := List.mem_map.1 hu
    obtain ⟨p, hp⟩ := (hk.each k hm).isPtr
    rw [hp]
    rfl) hn)
  have Hk := Lib.hid hk
  have Hups := Lib.hid (KidsTo.refl hk).ups
  have Hwide := Lib.hid (KidsTo.refl hk).wides
  clear hk hR
  go_enter Try.func20, Try.ntmps20
  go_wp2_with fail
  refine Hc.out.mono ?_
  rintro e w1 ⟨v, rfl, hown, hg⟩
  obtain ⟨A1, c1, rfl, h11, h12, h13⟩ := own_reads hown
  have hlt1 := hown.lt
  have Hg := Lib.hid hg
  have H13 := Lib.hid h13
  have Hlt1 := Lib.hid hlt1
  clear hown hg h13 Hc hlt1
  go_wp2
  go_ret
  have hg2 : Grow w1 (w1.alloc (.cells #[.iface 83 (.slice A1 n c1)] 82)) := Grow.alloc _ _
  have h2 : Blk (w1.alloc (.cells #[.iface 83 (.slice A1 n c1)] 82)) w1.heap.size 82 #[.iface 83 (.slice A1 n c1)] := Blk.new _ _ _
  have hlt : ∀ k ∈ ks, ∀ j, k.f j → j < w.heap.size := fun k hm j hj => (Hk.out.each k hm).lt j hj
  have hz := Hg.out.size
  refine ⟨_, fun j => j = w1.heap.size ∨ (Value.slice A1 n c1).ownBlock = some j ∨ ∃ k ∈ ks, k.f j, rfl, ⟨.meet _ A1 n c1 ks h2 (Or.inl rfl) (fun k hm hf => by have := hlt k hm _ hf; omega) ?_ ⟨fun k hm => (Hk.out.each k hm).grow (Hg.out.trans hg2), fun k hm j hj => Or.inr (Or.inr ⟨k, hm, hj⟩), Hk.out.apart⟩, up_meet Hups.out, fun x hx => ?_, fun j hj => ?_⟩, fun j hj => ?_, Hg.out.trans hg2⟩
  · refine ⟨by have := H13.out.1; simpa using this, h11, h12, fun h0 => ?_⟩
    obtain ⟨b, off, rfl, h3, h4⟩ := H13.out.2 h0
    refine ⟨b, off, rfl, ⟨Or.inr (Or.inl rfl), fun k hm hf => ?_⟩, by have := hg2.size; omega, fun j u hu => (hg2.cell (p := ⟨b, off + j, none⟩) h3).trans (h4 j u hu)⟩
    have h5 := hlt k hm b hf
    have h6 := (Hlt1.out b rfl).1
    omega
  · obtain ⟨h3, h4⟩ := mem_meet.1 hx
    cases hc : ks.map (·.l) with
    | nil => exact absurd hc h3
    | cons l r => exact Hwide.out l (by rw [hc]; simp) x (h4 l (by rw [hc]; simp))
  · have := hg2.size
    have := h2.lt
    rcases hj with h | h | ⟨k, hm, h⟩
    · omega
    · have := (Hlt1.out j h).2
      omega
    · have := hlt k hm j h
      omega
  · rcases hj with h | h | ⟨k, hm, h⟩
    · exact Or.inr (by omega)
    · exact Or.inr (Hlt1.out j h).1
    · exact Or.inl (Hk.out.sub k hm j h)
set_option maxRecDepth 100000 in
set_option maxHeartbeats 2000000 in
theorem cOf_any (d : Nat) (w : World) (B : Nat) (A : Option Addr) (n c : Nat) (l : List Int) (hR : IntsAt w B A n l) (hB : B ≤ w.heap.size) (hn : n ≤ 17592186044416) (hw : ∀ x ∈ l, W64 x) :
    Calls Try.prog 19 #[.slice A n c] w (CurNew (d + 1) w (fun _ => False) (rowL l)) := by
  have rowTy : AppTy Try.prog 77 3 (.int .i64 0) 1 8 := AppTy.mk' Try.underlying77 (by kernel_rfl) rfl (by decide)
  have Hlen := Lib.hid hR.len
  have HR := Lib.hid hR
  have Hw := Lib.hid hw
  clear hR hw
  go_enter Try.func19, Try.ntmps19
  go_wp2
  go_loopw [8] (fun v8 wr => ∃ (k : Nat) (v : Value), k ≤ n ∧ v8 = .int .i64 (k : Int) ∧ Hid (Blk wr w.heap.size 77 #[v]) ∧ Hid (wr.ownsRow (w.heap.size + 1) 3 1 v (rowL (l.take k)).length ((rowL (l.take k)).map i64v)) ∧ Hid (Below w.heap.size w wr)) (fun v8 _ => n - (intOf v8).toNat)
  case atStart => exact ⟨0, _, by omega, rfl, Blk.new _ _ _, World.ownsRow_nil _ _ _ _, Grow.alloc _ _⟩
  case round =>
    obtain ⟨k, v, hk, rfl, hb, ho, hg⟩ := hrel
    by_cases hlt : k < n
    · have d1 : decide ((k : Int) < (n : Int)) = true := decide_eq_true (by omega)
      obtain ⟨x, hx⟩ : ∃ x, l[k]? = some x := ⟨_, List.getElem?_eq_getElem (by rw [Hlen.out]; exact hlt)⟩
      obtain ⟨b, off, rfl, hbB, hcs⟩ := HR.out.at_ (by omega : 0 < n)
      have hcx : wr.cell? ⟨b, off + k, none⟩ = some (.int .i64 x) := (hg.out.cell (p := ⟨b, off + k, none⟩) (Nat.lt_of_lt_of_le hbB hB)).trans (hcs k x hx)
      have hc0 := hb.out.cell 0
      have hf0 := hb.out.frozen 0
      have hz := hb.out.lt
      have hrl : (rowL (l.take k)).length ≤ k := Nat.le_trans (row_len _) (List.length_take_le _ _)
      have Hsn := Lib.hid (show rowL (l.take (k + 1)) = rowStep (rowL (l.take k)) x by rw [List.take_add_one, hx]; exact row_snoc _ _)
      obtain ⟨R, hR⟩ : ∃ R, R = rowL (l.take k) := ⟨_, rfl⟩
      rw [← hR] at ho hrl Hsn
      have hvn : some w.heap.size ≠ v.ownBlock := fun e => by have := (ho.out.lt _ e.symm).1; omega
      obtain ⟨m, hm⟩ : ∃ m, m = R.length := ⟨_, rfl⟩
      rw [← hm] at ho hrl
      obtain ⟨A1, c1, rfl, h11, h12, h13⟩ := own_reads ho.out
      have Hm := Lib.hid hm
      have Hb := Lib.hid hb.out
      have Hvn := Lib.hid hvn
      clear hm hb
      -- the number is put behind the others
      have Hput : Hid (∀ (w2 : World) (v' : Value), w2.ownsRow (w.heap.size + 1) 3 1 v' (m + 1) (R.map i64v ++ [.int .i64 x]) → (wr.alloc (.cells #[.int .i64 x] 3)).grownBy w2 (Value.slice A1 m c1).ownBlock → (R ++ [x]) = rowStep R x →
          Blk (w2.setCell ⟨w.heap.size, 0, none⟩ v') w.heap.size 77 #[v'] ∧ (w2.setCell ⟨w.heap.size, 0, none⟩ v').ownsRow (w.heap.size + 1) 3 1 v' (rowL (l.take (k + 1))).length ((rowL (l.take (k + 1))).map i64v) ∧ Below w.heap.size w (w2.setCell ⟨w.heap.size, 0, none⟩ v')) := fun w2 v' h1 h2 h3 => by
        have hb2 := (Hb.out.alloc (.cells #[.int .i64 x] 3)).grown h2 Hvn.out
        refine ⟨hb2.set 0 _, ?_, ?_⟩
        · rw [Hsn.out, ← h3]
          have e : (R ++ [x]).length = m + 1 := by rw [List.length_append, ← Hm.out]; rfl
          rw [e, List.map_append]
          refine (Keep.setCell w2 ⟨w.heap.size, 0, none⟩ v').own h1 fun j hj e2 => ?_
          have e3 : j = w.heap.size := e2
          have := (h1.lt j hj).1
          omega
        · refine Below.setCell (Below.trans (Below.trans hg.out (Below.mono (Grow.alloc wr (.cells #[.int .i64 x] 3)) (Nat.le_of_lt hz))) ((Keep.grown h2).below (fun j hj => ?_) ?_)) (p := ⟨w.heap.size, 0, none⟩) (Nat.le_refl _) _
          · have := (ho.out.lt j hj).1
            omega
          · have := (Grow.alloc wr (.cells #[.int .i64 x] 3)).size
            omega
      have hown' := own_below ho.out (Grow.alloc wr (.cells #[.int .i64 x] 3))
      have hbl' := Hb.out.alloc (.cells #[.int .i64 x] 3)
      by_cases hm0 : m = 0
      · subst hm0
        have Hstep := Lib.hid (show R ++ [x] = rowStep R x by
          rw [List.eq_nil_of_length_eq_zero Hm.out.symm]
          rfl)
        clear hvn
        go_wp2_with (at_builtin; refine wpList_append_reads _ rfl (.tmp 25) (.tmp 27) rfl rowTy rfl hown' rfl (ReadsAt.made1 wr 3 (.int .i64 x)) (by simp [Value.oneCell']) (by simp only [maxLen]; omega) (by omega) (by simp; omega) ?_; intro v' w2 hown2 hgr2 hat2; obtain ⟨A', c', rfl, -, -, -⟩ := own_reads hown2; have hbl2 := hbl'.grown hgr2 Hvn.out; have hc2 := hbl2.cell 0; have hf2 := hbl2.frozen 0; clear hat2)
        obtain ⟨q1, q2, q3⟩ := Hput.out w2 _ hown2 hgr2 Hstep.out
        have Q1 := Lib.hid q1
        have Q2 := Lib.hid q2
        have Q3 := Lib.hid q3
        clear q1 q2 q3 hown2 hgr2 hbl2 hc2 hf2 hown' hbl'
        go_roundw
        case rel => exact ⟨k + 1, _, by omega, by go_num, Q1, Q2, Q3⟩
        case measure => simp [intOf]; omega
      · have d2 : ((m : Int) == 0) = false := by rw [beq_eq_false_iff_ne]; omega
        obtain ⟨y, hy⟩ : ∃ y, R[m - 1]? = some y := ⟨_, List.getElem?_eq_getElem (by rw [← Hm.out]; omega)⟩
        have Hlast := Lib.hid (show R.getLast? = some y by rw [List.getLast?_eq_getElem?, ← Hm.out, hy])
        obtain ⟨b1, off1, rfl, -, h14⟩ := h13.2 (by omega)
        have hcl : wr.cell? ⟨b1, off1 + (m - 1), none⟩ = some (.int .i64 y) := h14 (m - 1) (i64v y) (by rw [List.getElem?_map, hy]; rfl)
        have em : ((m : Int) - 1).toNat = m - 1 := by omega
        clear hy h14 h13 hvn
        by_cases hyx : y < x
        · have d3 : decide (y < x) = true := decide_eq_true hyx
          have Hstep := Lib.hid (show R ++ [x] = rowStep R x by
            unfold rowStep
            rw [Hlast.out]
            simp only
            rw [if_pos hyx])
          go_wp2_with (at_builtin; refine wpList_append_reads _ rfl (.tmp 25) (.tmp 27) rfl rowTy rfl hown' rfl (ReadsAt.made1 wr 3 (.int .i64 x)) (by simp [Value.oneCell']) (by simp only [maxLen]; omega) (by omega) (by simp; omega) ?_; intro v' w2 hown2 hgr2 hat2; obtain ⟨A', c', rfl, -, -, -⟩ := own_reads hown2; have hbl2 := hbl'.grown hgr2 Hvn.out; have hc2 := hbl2.cell 0; have hf2 := hbl2.frozen 0; clear hat2)
          obtain ⟨q1, q2, q3⟩ := Hput.out w2 _ hown2 hgr2 Hstep.out
          have Q1 := Lib.hid q1
          have Q2 := Lib.hid q2
          have Q3 := Lib.hid q3
          clear q1 q2 q3 hown2 hgr2 hbl2 hc2 hf2 hown' hbl' hcl
          go_roundw
          case rel => exact ⟨k + 1, _, by omega, by go_num, Q1, Q2, Q3⟩
          case measure => simp [intOf]; omega
        · have d3 : decide (y < x) = false := decide_eq_false hyx
          have Hsn2 := Lib.hid (show rowL (l.take (k + 1)) = R by
            rw [Hsn.out]
            unfold rowStep
            rw [Hlast.out]
            simp only
            rw [if_neg hyx])
          clear hown' hbl'
          go_wp2
          go_roundw
          case rel => exact ⟨k + 1, _, by omega, by go_num, Hb, by rw [Hsn2.out, ← Hm.out]; exact ho, hg⟩
          case measure => simp [intOf]; omega
    · have d1 : decide ((k : Int) < (n : Int)) = false := decide_eq_false (by omega)
      obtain rfl : k = n := by omega
      rw [List.take_of_length_le (show l.length ≤ k by rw [Hlen.out]; exact Nat.le_refl _)] at ho
      obtain ⟨A1, c1, rfl, h11, h12, h13⟩ := own_reads ho.out
      have H13 := Lib.hid h13
      have Hlt := Lib.hid ho.out.lt
      have hz := hb.out.lt
      clear h13
      have hrl : (rowL l).length ≤ k := by rw [← Hlen.out]; exact row_len l
      go_wp2
      go_ret
      have hg2 : Grow wr (wr.alloc (.cells #[.iface 78 (.pointer (some ⟨w.heap.size, 0, none⟩))] 82)) := Grow.alloc _ _
      refine ⟨_, fun j => j = wr.heap.size ∨ j = w.heap.size ∨ (Value.slice A1 (rowL l).length c1).ownBlock = some j, rfl, ⟨.row _ _ A1 _ c1 (rowL l) (Blk.new _ _ _) (hb.out.alloc _) (Or.inl rfl) (Or.inr (Or.inl rfl)) (by omega) ?_, up_row l, fun x hx => Hw.out x (mem_row hx), fun j hj => ?_⟩, fun j hj => ?_, Below.trans hg.out (Below.mono hg2 (by omega))⟩
      · refine ⟨by simp, h11, h12, fun h0 => ?_⟩
        obtain ⟨b, off, rfl, h3, h4⟩ := H13.out.2 h0
        exact ⟨b, off, rfl, Or.inr (Or.inr rfl), by have := hg2.size; omega, fun j u hu => (hg2.cell (p := ⟨b, off + j, none⟩) h3).trans (h4 j u hu)⟩
      · have := hg2.size
        have := (Blk.new wr 82 #[.iface 78 (.pointer (some ⟨w.heap.size, 0, none⟩))]).lt
        rcases hj with h | h | h
        · omega
        · omega
        · have := (Hlt.out j h).2
          omega
      · rcases hj with h | h | h
        · exact Or.inr (by omega)
        · exact Or.inr (by omega)
        · have := (Hlt.out j h).1
          exact Or.inr (by omega)
end Go.Proofs.Ytamdejidkgnaeaa
