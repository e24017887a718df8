/-
  The walk of near's All: the documents in which all of some runs may stand.
-/
import Derived.Test.YtamdejidkgnaeaaNearDocs
import Derived.Test.YtamdejidkgnaeaaCurMake
namespace Go.Proofs.Ytamdejidkgnaeaa
open Go.RowKit NearM CurM
set_option linter.unusedVariables false
theorem rowTo_up : ∀ (l o : List Int), Up (o ++ l) → l.foldl rowStep o = o ++ l
  | [], o, _ => by simp
  | x :: l, o, h => by
    have e : rowStep o x = o ++ [x] := by
      unfold rowStep
      cases hl : o.getLast? with
      | none =>
        rw [List.getLast?_eq_none_iff] at hl
        rw [hl]
        rfl
      | some y =>
        have hy : y ∈ o := List.mem_of_getLast? hl
        have := (List.pairwise_append.1 h).2.2 y hy x (by simp)
        simp only []
        rw [if_pos this]
    rw [List.foldl_cons, e, rowTo_up l (o ++ [x]) (by simpa using h)]
    simp
theorem row_up {l : List Int} (h : Up l) : rowL l = l := by
  have := rowTo_up l [] (by simpa using h)
  simpa [rowL] using this
/-- the cursors that are made -/
structure RowsI (w : World) (rows : List (List Int)) (v : Value) (W : World) : Prop where
  kids : ∃ (ks : List Kid) (F : Nat → Prop), ks.map (·.l) = rows ∧ KidsAt (Cur 1) W F ks ∧ W.ownsRow w.heap.size 58 1 v ks.length (ks.map (·.v)) ∧ (∀ j, F j → w.heap.size ≤ j ∧ j < W.heap.size) ∧ (∀ b, v.ownBlock = some b → ¬ F b)
  grow : Grow w W
theorem KidsAt.keepS {w w' : World} {F S : Nat → Prop} {ks : List Kid} {d : Nat} (h : KidsAt (Cur d) w F ks) (hk : Keep S w w') (hS : ∀ j, F j → ¬ S j) : KidsAt (Cur d) w' F ks := h.kept fun k hm hc => hc.kept hk fun j hj => hS j (h.sub k hm j hj)
theorem RowsI.more {w W W' : World} {rows : List (List Int)} {v : Value} (h : RowsI w rows v W) (hg : Grow W W') : RowsI w rows v W' := by
  obtain ⟨⟨ks, F, h1, h2, h3, h4, h5⟩, hgr⟩ := h
  exact ⟨⟨ks, F, h1, h2.keepS (S := fun _ => False) (Keep.grow hg) (fun _ _ h => h), own_below h3 hg, fun j hj => ⟨(h4 j hj).1, Nat.lt_of_lt_of_le (h4 j hj).2 hg.size⟩, h5⟩, hgr.trans hg⟩
/-- one more -/
theorem RowsI.snoc {w W W1 W2 W3 : World} {rows : List (List Int)} {v v2 kv : Value} {L : List Int} {F2 : Nat → Prop} {ks : List Kid} {F : Nat → Prop} (h1 : ks.map (·.l) = rows) (h3 : KidsAt (Cur 1) W F ks) (h4 : W.ownsRow w.heap.size 58 1 v ks.length (ks.map (·.v))) (h5 : ∀ j, F j → w.heap.size ≤ j ∧ j < W.heap.size) (h6 : ∀ b, v.ownBlock = some b → ¬ F b) (hgr : Grow w W)
    (hg : Grow W W1) (hc : Cur 1 W2 kv L F2) (hf : ∀ j, F2 j → W1.heap.size ≤ j) (hg2 : Grow W1 W2)
    (hown : W3.ownsRow w.heap.size 58 1 v2 (ks.length + 1) (ks.map (·.v) ++ [kv])) (hk : Keep (fun j => v.ownBlock = some j) W2 W3) (hv2 : ∀ b, v2.ownBlock = some b → v.ownBlock = some b ∨ W2.heap.size ≤ b) :
    RowsI w (rows ++ [L]) v2 W3 := by
  have h3' := (h3.keepS (S := fun _ => False) (Keep.grow hg) (fun _ _ h => h)).keepS (S := fun _ => False) (Keep.grow hg2) (fun _ _ h => h)
  have h4' := own_below (own_below h4 hg) hg2
  have hvlt : ∀ b, v.ownBlock = some b → w.heap.size ≤ b ∧ b < W.heap.size := fun b hb => h4.lt b hb
  have hsz := hg.size
  have hF2 : ∀ j, F2 j → ¬ v.ownBlock = some j := fun j hj e => by
    have := hf j hj
    have := (hvlt j e).2
    omega
  have hKS : KidsAt (Cur 1) W3 (fun j => F j ∨ F2 j) (ks ++ [⟨kv, L, F2⟩]) := by
    have a1 := h3'.keepS hk (fun j hj e => h6 j e hj)
    have a2 := hc.kept hk hF2
    have sep : ∀ k ∈ ks, ∀ x, k.f x → ¬ F2 x := fun k hm x hx hx2 => by
      have := (h5 x (h3.sub k hm x hx)).2
      have := hf x hx2
      omega
    refine ⟨fun k hm => ?_, fun k hm j hj => ?_, fun i j a b ha hb hij x hax hbx => ?_⟩
    · rcases List.mem_append.1 hm with hm | hm
      · exact a1.each k hm
      · obtain rfl := List.mem_singleton.1 hm
        exact a2
    · rcases List.mem_append.1 hm with hm | hm
      · exact Or.inl (h3.sub k hm j hj)
      · obtain rfl := List.mem_singleton.1 hm
        exact Or.inr hj
    · have get : ∀ (i : Nat) (a : Kid), (ks ++ [(⟨kv, L, F2⟩ : Kid)])[i]? = some a → (i < ks.length ∧ ks[i]? = some a) ∨ (i = ks.length ∧ a = ⟨kv, L, F2⟩) := fun i a ha => by
        rcases Nat.lt_or_ge i ks.length with h | h
        · rw [List.getElem?_append_left h] at ha
          exact Or.inl ⟨h, ha⟩
        · have hil := (List.getElem?_eq_some_iff.1 ha).1
          simp only [List.length_append, List.length_cons, List.length_nil] at hil
          have e : i = ks.length := by omega
          rw [List.getElem?_append_right h, e, Nat.sub_self] at ha
          injection ha with ha
          exact Or.inr ⟨e, ha.symm⟩
      rcases get i a ha with ⟨-, ha⟩ | ⟨e1, rfl⟩
      · rcases get j b hb with ⟨-, hb⟩ | ⟨e2, rfl⟩
        · exact h3.apart i j a b ha hb hij x hax hbx
        · exact sep a (List.mem_of_getElem? ha) x hax hbx
      · rcases get j b hb with ⟨-, hb⟩ | ⟨e2, rfl⟩
        · exact sep b (List.mem_of_getElem? hb) x hbx hax
        · exact hij (e1.trans e2.symm)
  have hsz2 := hg2.size
  have hsz3 := hk.size
  refine ⟨⟨ks ++ [⟨kv, L, F2⟩], fun j => F j ∨ F2 j, by simp [h1], hKS, ?_, fun j hj => ?_, fun b hb hj => ?_⟩, ?_⟩
  · simpa using hown
  · rcases hj with hj | hj
    · have := h5 j hj
      omega
    · have h7 := hf j hj
      have h8 := hc.lt j hj
      have := hgr.size
      omega
  · rcases hv2 b hb with h7 | h7
    · rcases hj with hj | hj
      · exact h6 b h7 hj
      · exact hF2 b hj h7
    · rcases hj with hj | hj
      · have := (h5 b hj).2
        omega
      · have := hc.lt b hj
        omega
  · exact ((Keep.grow (S := fun j => v.ownBlock = some j) ((hgr.trans hg).trans hg2)).trans' hk).below (fun j hj => (hvlt j hj).1) (Nat.le_refl _)
theorem up_len : ∀ {l m : List Int}, CurM.Up l → (∀ x ∈ l, x ∈ m) → l.length ≤ m.length
  | [], _, _, _ => Nat.zero_le _
  | a :: l, m, hn, h => by
    obtain ⟨h1, h2⟩ := up_cons.1 hn
    have ha := h a (by simp)
    have h3 := up_len (l := l) (m := m.erase a) h2 fun x hx => (List.mem_erase_of_ne (fun e => by have := h1 x hx; omega)).2 (h x (by simp [hx]))
    rw [List.length_erase_of_mem ha] at h3
    have := List.length_pos_of_mem ha
    simp only [List.length_cons]
    omega
/-- the documents of a run, as numbers -/
def rowI (ps : List (ByteArray × List Pl)) (s : ByteArray) : List Int := (docsOf (nearS ps s)).map fun d : Nat => (d : Int)
def AllNew (w : World) (l : List Int) (e : Ending) (w' : World) : Prop := ∃ v, e = .returned v ∧ w'.ownsRow w.heap.size 3 1 v l.length (l.map i64v) ∧ Grow w w'
set_option maxRecDepth 100000 in
set_option maxHeartbeats 4000000 in
theorem nAll_any (w : World) (B : Nat) (A Ar : Option Addr) (n c nr cr : Nat) (ps : List (ByteArray × List Pl)) (rs : List ByteArray) (h : PostsAt w B A n ps) (hr : ReadsAt w B 1 Ar nr (rs.map Value.string)) (hB : B ≤ w.heap.size) (hn : n ≤ 1000000000) (hd : (ps.map (·.1)).Nodup)
    (hps : ∀ p ∈ ps, p.2.length ≤ 1000000000 ∧ Up p.2 ∧ ∀ x ∈ p.2, x.2 ≤ 100000000) (hdoc : ∀ p ∈ ps, ∀ x ∈ p.2, x.1 ≤ 1000000) (hs : ∀ s ∈ rs, s.size ≤ 1000000) (hnr : nr ≤ 1000000) :
    Calls Try.prog 8 #[.slice A n c, .slice Ar nr cr] w (fun e w' => ∃ m : Nat, (∀ s ∈ rs, (rowI ps s).length ≤ m) ∧ AllNew w ((meetL (rs.map (rowI ps))).take m) e w') := by
  have curTy : AppTy Try.prog 57 58 (.pointer none) 1 8 := AppTy.mk' Try.underlying57 (by kernel_rfl) rfl (by decide)
  have hnear : ∀ s : ByteArray, Up (nearS ps s) ∧ (nearS ps s).length ≤ 1000000000 ∧ ∀ x ∈ nearS ps s, x.1 ≤ 1000000 := fun s => by
    have hfp : ∀ g : ByteArray, (findP ps g).length ≤ 1000000000 ∧ Up (findP ps g) ∧ ∀ x ∈ findP ps g, x.1 ≤ 1000000 := fun g => by
      unfold findP
      split
      · rename_i p hp
        exact ⟨(hps p (List.mem_of_find?_eq_some hp)).1, (hps p (List.mem_of_find?_eq_some hp)).2.1, hdoc p (List.mem_of_find?_eq_some hp)⟩
      · exact ⟨Nat.zero_le _, List.Pairwise.nil, fun x hx => by cases hx⟩
    refine ⟨up_nearF fun L hL => ?_, nearF_len fun L hL => ?_, fun x hx => ?_⟩
    · obtain ⟨g, -, rfl⟩ := List.mem_map.1 hL
      exact (hfp _).2.1
    · obtain ⟨g, -, rfl⟩ := List.mem_map.1 hL
      exact (hfp _).1
    · unfold nearS at hx
      cases hg : (GramM.grams s.data.toList).map fun g => findP ps (grS g) with
      | nil => rw [hg] at hx; cases hx
      | cons a r =>
        rw [hg] at hx
        have ha : a ∈ (GramM.grams s.data.toList).map fun g => findP ps (grS g) := by rw [hg]; simp
        obtain ⟨g, -, rfl⟩ := List.mem_map.1 ha
        exact (hfp _).2.2 x (List.mem_filter.1 hx).1
  have Hrow := Lib.hid (show ∀ s, CurM.Up (rowI ps s) ∧ (rowI ps s).length ≤ 1000000000 ∧ ∀ x ∈ rowI ps s, W64 x from fun s => by
    obtain ⟨h1, h2, h3⟩ := hnear s
    refine ⟨up_ints (up_docsOf h1), ?_, fun x hx => ?_⟩
    · unfold rowI
      rw [List.length_map]
      refine Nat.le_trans ?_ h2
      clear h1 h2 h3
      generalize nearS ps s = l
      induction l with
      | nil => exact Nat.le_refl _
      | cons p l ih =>
        cases l with
        | nil => exact Nat.le_refl _
        | cons q l =>
          rw [docsOf]
          split
          · exact Nat.le_succ_of_le ih
          · exact Nat.succ_le_succ ih
    · obtain ⟨d, hd, rfl⟩ := List.mem_map.1 hx
      obtain ⟨p, hp, rfl⟩ := mem_docsOf.1 hd
      have := h3 p hp
      unfold W64
      omega)
  have Hdocs := Lib.hid (show ∀ W s, Grow w W → s ∈ rs → Calls Try.prog 10 #[.slice A n c, .string s] W (IntsNew W (rowI ps s)) from fun W s hg hm => nDocs_any W B s A n c ps (h.grow hg hB) (Nat.le_trans hB hg.size) hn hd hps (hs s hm))
  have Hrl := Lib.hid (show rs.length = nr by have := hr.1; simpa using this)
  have HR := Lib.hid (show ∀ W, Grow w W → ReadsAt W B 1 Ar nr (rs.map Value.string) from fun W hg => hr.below (Below.mono hg hB))
  clear h hr hd hps hdoc hs hnear
  go_enter Try.func8, Try.ntmps8
  go_wp2
  go_loopw [5, 6, 8, 9, 12] (fun v5 v6 v8 v9 v12 wr => ∃ (i m : Nat) (v : Value), v = v5 ∧ i ≤ nr ∧ m ≤ 1000000000 ∧ v6 = .int .i64 (m : Int) ∧ v12 = .int .i64 (i : Int) ∧ Hid (RowsI w ((rs.take i).map (rowI ps)) v wr) ∧ Hid (∀ s ∈ rs.take i, (rowI ps s).length ≤ m)) (fun _ _ _ _ v12 _ => nr - (intOf v12).toNat)
  case atStart => exact ⟨0, 0, _, rfl, by omega, by omega, rfl, rfl, Lib.hid ⟨⟨[], fun _ => False, rfl, ⟨fun k hk => (by cases hk), fun k hk => (by cases hk), fun i j a b ha => by simp at ha⟩, World.ownsRow_nil _ _ _ _, fun j hj => hj.elim, fun b hb => by cases hb⟩, Grow.refl _⟩, Lib.hid (fun s hs => by simp at hs)⟩
  case round =>
    obtain ⟨i, m, v, rfl, hi, hm, rfl, rfl, hI, hmx⟩ := hrel
    by_cases hlt : i < nr
    · have d1 : decide ((i : Int) < (nr : Int)) = true := decide_eq_true (by omega)
      obtain ⟨s, hs⟩ : ∃ s, rs[i]? = some s := ⟨_, List.getElem?_eq_getElem (by rw [Hrl.out]; exact hlt)⟩
      obtain ⟨b, off, rfl, hbB, hcs⟩ := (HR.out wr hI.out.grow).2 (by omega)
      have hcr : wr.cell? ⟨b, off + i, none⟩ = some (.string s) := hcs i _ (by rw [List.getElem?_map, hs]; rfl)
      have Hd := Lib.hid (Hdocs.out wr s hI.out.grow (List.mem_of_getElem? hs))
      have Hs2 := Lib.hid (show rs.take (i + 1) = rs.take i ++ [s] by rw [List.take_add_one, hs]; rfl)
      obtain ⟨hru, hrl, hrw⟩ := Hrow.out s
      obtain ⟨ds, hds⟩ : ∃ ds, ds = rowI ps s := ⟨_, rfl⟩
      rw [← hds] at Hd hru hrl hrw
      have Hds := Lib.hid hds
      have Hru := Lib.hid hru
      have Hrw := Lib.hid hrw
      clear hcs hs hds hru hrw
      go_wp2_with fail
      refine Hd.out.mono ?_
      rintro e w3 ⟨A3, c3, rfl, hI3, hg3⟩
      have Hof := Lib.hid (cOf_any 0 w3 w3.heap.size A3 ds.length c3 ds hI3 (Nat.le_refl _) (by omega) Hrw.out)
      rw [row_up Hru.out] at Hof
      have Hg3 := Lib.hid hg3
      clear hI3 hg3 hcr
      obtain ⟨q, hq⟩ : ∃ q, q = ds.length := ⟨_, rfl⟩
      rw [← hq] at hrl Hof ⊢
      have Hq := Lib.hid hq
      clear hq
      go_wp2_with fail
      refine Hof.out.mono ?_
      rintro e w4 ⟨kv, F2, rfl, hc4, hf4, hg4⟩
      obtain ⟨kp, rfl⟩ := hc4.isPtr
      obtain ⟨⟨ks0, F0, h10, h20, h30, h40, h50⟩, hgr0⟩ := hI.out
      obtain ⟨A1, c1, rfl⟩ := own_form h30
      have hG5 : Grow w4 (w4.alloc (.cells #[.pointer kp] 58)) := Grow.alloc _ _
      have hkl : ks0.length = i := by
        have := congrArg List.length h10
        rw [List.length_map, List.length_map, List.length_take, Hrl.out] at this
        omega
      have hown := own_below (own_below (own_below h30 Hg3.out) hg4) hG5
      have hR1 := readsB2 (s := 1) (cs := [.pointer kp]) rfl (Blk.new w4 58 #[.pointer kp])
      have hz5 : w.heap.size ≤ (w4.alloc (.cells #[.pointer kp] 58)).heap.size := Nat.le_trans (hgr0.trans (Hg3.out.trans hg4)).size hG5.size
      have hkb : ks0.length + 1 ≤ 1000001 := by omega
      clear hkl
      by_cases hmq : m < q
      · have hmax : max (m : Int) (q : Int) = (q : Int) := by omega
        have hml : decide ((m : Int) < (q : Int)) = true := decide_eq_true (by omega)
        go_wp2_with (at_builtin; refine wpList_append_reads _ rfl (.tmp 19) (.tmp 22) rfl curTy rfl hown rfl hR1 (by simp [Value.oneCell']) (by simp only [maxLen]; omega) (by omega) hz5 ?_; intro v' w6 hown2 hgr2 hat2)
        have HN := Lib.hid (show RowsI w ((rs.take (i + 1)).map (rowI ps)) v' w6 from by
          rw [Hs2.out, List.map_append, List.map_cons, List.map_nil, ← Hds.out]
          exact RowsI.snoc h10 h20 h30 h40 h50 hgr0 Hg3.out hc4 (fun j hj => (hf4 j hj).resolve_left (fun h => h)) hg4 hown2 ((Keep.grow hG5).trans' (Keep.grown hgr2)) (fun b hb => by
            rcases hat2 with h | h
            · exact Or.inl ((show v'.ownBlock = (Value.slice A1 ks0.length c1).ownBlock from h).symm.trans hb)
            · rw [h] at hb
              injection hb with hb
              exact Or.inr (by rw [← hb]; exact hG5.size)))
        have Hm2 := Lib.hid (show ∀ s ∈ rs.take (i + 1), (rowI ps s).length ≤ q from fun s' hs' => by
          rw [Hs2.out] at hs'
          rcases List.mem_append.1 hs' with hs' | hs'
          · have := hmx.out s' hs'
            omega
          · obtain rfl := List.mem_singleton.1 hs'
            rw [← Hds.out, ← Hq.out]
            omega)
        clear hown hown2 hgr2 hat2 hR1 h10 h20 h30 h40 h50 hc4 hf4
        go_roundw
        case rel => exact ⟨i + 1, q, _, rfl, by omega, by omega, rfl, by go_num, HN, Hm2⟩
        case measure => simp only [intOf]; omega
      · have hmax : max (m : Int) (q : Int) = (m : Int) := by omega
        have hml : decide ((m : Int) < (q : Int)) = false := decide_eq_false (by omega)
        go_wp2_with (at_builtin; refine wpList_append_reads _ rfl (.tmp 19) (.tmp 22) rfl curTy rfl hown rfl hR1 (by simp [Value.oneCell']) (by simp only [maxLen]; omega) (by omega) hz5 ?_; intro v' w6 hown2 hgr2 hat2)
        have HN := Lib.hid (show RowsI w ((rs.take (i + 1)).map (rowI ps)) v' w6 from by
          rw [Hs2.out, List.map_append, List.map_cons, List.map_nil, ← Hds.out]
          exact RowsI.snoc h10 h20 h30 h40 h50 hgr0 Hg3.out hc4 (fun j hj => (hf4 j hj).resolve_left (fun h => h)) hg4 hown2 ((Keep.grow hG5).trans' (Keep.grown hgr2)) (fun b hb => by
            rcases hat2 with h | h
            · exact Or.inl ((show v'.ownBlock = (Value.slice A1 ks0.length c1).ownBlock from h).symm.trans hb)
            · rw [h] at hb
              injection hb with hb
              exact Or.inr (by rw [← hb]; exact hG5.size)))
        have Hm2 := Lib.hid (show ∀ s ∈ rs.take (i + 1), (rowI ps s).length ≤ m from fun s' hs' => by
          rw [Hs2.out] at hs'
          rcases List.mem_append.1 hs' with hs' | hs'
          · have := hmx.out s' hs'
            omega
          · obtain rfl := List.mem_singleton.1 hs'
            rw [← Hds.out, ← Hq.out]
            omega)
        clear hown hown2 hgr2 hat2 hR1 h10 h20 h30 h40 h50 hc4 hf4
        go_roundw
        case rel => exact ⟨i + 1, m, _, rfl, by omega, by omega, rfl, by go_num, HN, Hm2⟩
        case measure => simp only [intOf]; omega
    · obtain rfl : i = nr := by omega
      have d1 : decide ((i : Int) < (i : Int)) = false := decide_eq_false (by omega)
      rw [List.take_of_length_le (Nat.le_of_eq Hrl.out)] at hI hmx
      obtain ⟨⟨ks, F, h1, h2, h3, h4, h5⟩, hgr⟩ := hI.out
      have hkl : ks.length = i := by
        have := congrArg List.length h1
        rw [List.length_map, List.length_map, Hrl.out] at this
        exact this
      obtain ⟨A1, c1, e1, -, -, hR1⟩ := own_reads h3
      have Hmeet := Lib.hid (cMeet_any wr F wr.heap.size A1 ks.length c1 ks hR1 (Nat.le_refl _) (by omega) h2)
      rw [h1] at Hmeet
      have H4 := Lib.hid h4
      have Hgr := Lib.hid hgr
      subst e1
      clear h1 h2 h3 h4 h5 hgr hR1 hI hkl
      go_wp2_with fail
      refine Hmeet.out.mono ?_
      rintro e w3 ⟨cv, F3, rfl, hc3, hf3, hg3⟩
      obtain ⟨cp, rfl⟩ := hc3.isPtr
      have hml : (meetL (rs.map (rowI ps))).length ≤ 17592186044416 := by
        cases hrs : rs with
        | nil => exact Nat.zero_le _
        | cons s r =>
          have hsub : ∀ x ∈ meetL ((s :: r).map (rowI ps)), x ∈ rowI ps s := fun x hx => (mem_meet.1 hx).2 _ (by simp)
          have hup : CurM.Up (meetL ((s :: r).map (rowI ps))) := up_meet fun l hl => by
            obtain ⟨z, -, rfl⟩ := List.mem_map.1 hl
            exact (Hrow.out z).1
          have hle : (meetL ((s :: r).map (rowI ps))).length ≤ (rowI ps s).length := up_len hup hsub
          have := (Hrow.out s).2.1
          omega
      have Htake := Lib.hid (cTake_any 2 w3 cp _ F3 (m : Int) hc3 hml)
      have Hg3 := Lib.hid hg3
      have Hf3 := Lib.hid hf3
      clear hc3 hf3 hg3 hml
      go_wp2_with fail
      refine Htake.out.mono ?_
      rintro e w4 ⟨x, rfl, ho, F', -, hk4, -⟩
      have Ho := Lib.hid ho
      have Hk4 := Lib.hid hk4
      clear ho hk4
      go_wp2_with fail
      go_ret
      have hgt : Grow w w3 := Hgr.out.trans Hg3.out
      refine ⟨m, hmx.out, x, rfl, own_base (by have h := Ho.out; rwa [Int.toNat_natCast] at h) (Nat.le_trans hgt.size (Nat.le_add_right _ _)), ((Keep.grow (S := F3) hgt).trans' Hk4.out).below (fun j hj => ?_) (Nat.le_refl _)⟩
      rcases Hf3.out j hj with h | h
      · exact (H4.out j h).1
      · exact Nat.le_trans Hgr.out.size h
end Go.Proofs.Ytamdejidkgnaeaa
