/-
  The walks of post's Docs, and near's Docs: the documents of places.
-/
import Derived.Shelf.Slices.Cells
import Derived.Test.YtamdejidkgnaeaaShelf
import Derived.Test.YtamdejidkgnaeaaNearPlaces
namespace Go.Proofs.Ytamdejidkgnaeaa
open Go.RowKit NearM
set_option linter.unusedVariables false
theorem compact_up {zs : List Int} (h : ∀ (i j : Nat) (x y : Int), i ≤ j → zs[i]? = some x → zs[j]? = some y → x ≤ y) : CurM.Up (Lib.compact zs) := by
  unfold CurM.Up Lib.compact Lib.compactUpTo
  rw [List.pairwise_map]
  refine List.Pairwise.imp_of_mem ?_ (List.pairwise_lt_range.filter _)
  intro a b ha hb hab
  rw [List.mem_filter, List.mem_range] at ha hb
  have hk := hb.2
  unfold Lib.keeps at hk
  have hk := of_decide_eq_true hk
  have hne : zs.toArray[b]! ≠ zs.toArray[b - 1]! := hk.resolve_left (by omega)
  have g : ∀ k, k < zs.length → zs[k]? = some (zs.toArray[k]!) := fun k hk => by
    rw [List.getElem?_eq_getElem hk]
    simp [hk]
  have h1 := h a (b - 1) _ _ (by omega) (g a ha.1) (g (b - 1) (by omega))
  have h2 := h (b - 1) b _ _ (by omega) (g (b - 1) (by omega)) (g b hb.1)
  omega
theorem mem_compact {zs : List Int} {x : Int} : x ∈ Lib.compact zs ↔ x ∈ zs := by
  have g : ∀ k, k < zs.length → zs[k]? = some (zs.toArray[k]!) := fun k hk => by
    rw [List.getElem?_eq_getElem hk]
    simp [hk]
  unfold Lib.compact Lib.compactUpTo
  rw [List.mem_map]
  constructor
  · rintro ⟨j, hj, rfl⟩
    rw [List.mem_filter, List.mem_range] at hj
    exact List.mem_of_getElem? (g j hj.1)
  · intro hx
    obtain ⟨j, hj⟩ := List.getElem?_of_mem hx
    have hjl := (List.getElem?_eq_some_iff.1 hj).1
    induction j with
    | zero =>
      refine ⟨0, List.mem_filter.2 ⟨List.mem_range.2 hjl, by simp [Lib.keeps]⟩, ?_⟩
      have := g 0 hjl
      rw [hj] at this
      injection this with this
      exact this.symm
    | succ j ih =>
      by_cases hk : Lib.keeps zs.toArray (j + 1) = true
      · refine ⟨j + 1, List.mem_filter.2 ⟨List.mem_range.2 hjl, hk⟩, ?_⟩
        have := g (j + 1) hjl
        rw [hj] at this
        injection this with this
        exact this.symm
      · have he : zs.toArray[j + 1]! = zs.toArray[j]! := by
          unfold Lib.keeps at hk
          rw [decide_eq_true_eq] at hk
          have h2 : ¬ (zs.toArray[j + 1]! ≠ zs.toArray[j + 1 - 1]!) := fun h => hk (Or.inr h)
          exact Decidable.not_not.1 h2
        refine ih ?_ (by omega)
        rw [g j (by omega), ← he]
        exact (g (j + 1) hjl).symm.trans hj
theorem compact_docs {l : List Pl} (h : Up l) : Lib.compact (l.map fun p => (p.1 : Int)) = (docsOf l).map fun d : Nat => (d : Int) := by
  refine CurM.up_ext (compact_up fun i j x y hij hx hy => ?_) (up_ints (up_docsOf h)) fun x => ?_
  · rw [List.getElem?_map, Option.map_eq_some_iff] at hx hy
    obtain ⟨p, hp, rfl⟩ := hx
    obtain ⟨q, hq, rfl⟩ := hy
    rcases Nat.eq_or_lt_of_le hij with e | e
    · subst e
      rw [hp] at hq
      injection hq with hq
      rw [hq]
      exact Int.le_refl _
    · obtain ⟨h1, h2⟩ := List.getElem?_eq_some_iff.1 hp
      obtain ⟨h3, h4⟩ := List.getElem?_eq_some_iff.1 hq
      have h5 := List.pairwise_iff_getElem.1 h i j h1 h3 e
      rw [h2, h4] at h5
      unfold Lt at h5
      omega
  · rw [mem_compact, List.mem_map]
    constructor
    · rintro ⟨p, hp, rfl⟩
      exact mem_ints.2 (mem_docsOf.2 ⟨p, hp, rfl⟩)
    · intro hx
      obtain ⟨d, hd, rfl⟩ := List.mem_map.1 hx
      obtain ⟨p, hp, rfl⟩ := mem_docsOf.1 hd
      exact ⟨p, hp, rfl⟩
def docC (l : List Pl) : List Value := l.map fun p => .int .i64 (p.1 : Int)
theorem docC_snoc (l : List Pl) (p : Pl) : docC (l ++ [p]) = docC l ++ [.int .i64 (p.1 : Int)] := by simp [docC]
theorem docC_len (l : List Pl) : (docC l).length = l.length := by simp [docC]
/-- what a call tells: ints that it has made -/
def IntsNew (w : World) (l : List Int) (e : Ending) (w' : World) : Prop := ∃ A c, e = .returned (.slice A l.length c) ∧ IntsAt w' w'.heap.size A l.length l ∧ Grow w w'
set_option maxRecDepth 100000 in
set_option maxHeartbeats 4000000 in
theorem pDocs_any (w : World) (B : Nat) (A : Option Addr) (n c : Nat) (l : List Pl) (h : PlsAt w B A n l) (hB : B ≤ w.heap.size) (hu : Up l) (hn : n ≤ 1000000000) :
    Calls Try.prog 22 #[.slice A n c] w (IntsNew w ((docsOf l).map fun d : Nat => (d : Int))) := by
  have intsTy : AppTy Try.prog 29 3 (.int .i64 0) 1 8 := AppTy.mk' Try.underlying29 (by kernel_rfl) rfl (by decide)
  have Hlen := Lib.hid h.1
  have HR := Lib.hid (show ∀ W, Grow w W → PlsAt W B A n l from fun W hg => h.grow hg hB)
  have Hcd := Lib.hid (compact_docs hu)
  clear h hu
  go_enter Try.func22, Try.ntmps22
  go_wp2
  go_loopw [2, 4, 7] (fun v2 v4 v7 wr => ∃ (k : Nat) (v : Value), v = v2 ∧ k ≤ n ∧ v7 = .int .i64 (k : Int) ∧ Hid (wr.ownsRow w.heap.size 3 1 v k (docC (l.take k))) ∧ Hid (Grow w wr)) (fun _ _ v7 _ => n - (intOf v7).toNat)
  case atStart => exact ⟨0, _, rfl, by omega, rfl, World.ownsRow_nil _ _ _ _, Grow.refl _⟩
  case round =>
    obtain ⟨k, v, rfl, hk, rfl, ho, hg⟩ := hrel
    by_cases hlt : k < n
    · have d1 : decide ((k : Int) < (n : Int)) = true := decide_eq_true (by omega)
      obtain ⟨x, hx⟩ : ∃ x, l[k]? = some x := ⟨_, List.getElem?_eq_getElem (by rw [Hlen.out]; exact hlt)⟩
      obtain ⟨b, off, rfl, hbB, hrg⟩ := (HR.out wr hg.out).range hx
      have Hrg := Lib.hid hrg
      have hgA : Grow wr ((wr.alloc (.cells #[.int .i64 (x.1 : Int), .int .i64 (x.2 : Int)] 33)).alloc (.cells #[.int .i64 (x.1 : Int)] 3)) := (Grow.alloc _ _).trans (Grow.alloc _ _)
      have hown := own_below ho.out hgA
      have hR1 : ReadsAt ((wr.alloc (.cells #[.int .i64 (x.1 : Int), .int .i64 (x.2 : Int)] 33)).alloc (.cells #[.int .i64 (x.1 : Int)] 3)) ((wr.alloc (.cells #[.int .i64 (x.1 : Int), .int .i64 (x.2 : Int)] 33)).alloc (.cells #[.int .i64 (x.1 : Int)] 3)).heap.size 1 (some ⟨wr.heap.size + 1, 0, none⟩) 1 [.int .i64 (x.1 : Int)] := by
        have h := readsB2 (s := 1) (cs := [.int .i64 (x.1 : Int)]) rfl (Blk.new (wr.alloc (.cells #[.int .i64 (x.1 : Int), .int .i64 (x.2 : Int)] 33)) 3 #[.int .i64 (x.1 : Int)])
        rwa [World.size_alloc wr (.cells #[.int .i64 (x.1 : Int), .int .i64 (x.2 : Int)] 33)] at h
      have Hs2 := Lib.hid (show l.take (k + 1) = l.take k ++ [x] by rw [List.take_add_one, hx]; rfl)
      have hgt := hg.out.trans hgA
      clear hrg hx
      obtain ⟨A1, c1, rfl⟩ := own_form ho.out
      go_wp2_with (first | (refine wpList_load_mid rfl 33 (.tmp 9) rfl b (off + k * 2) rfl _ _ Hrg.out Try.underlying33 rfl (by kernel_rfl) ?_) | (at_builtin; refine wpList_append_reads _ rfl (.tmp 11) (.tmp 14) rfl intsTy rfl hown rfl hR1 (by simp [Value.oneCell']) (by simp only [maxLen]; omega) (by omega) hgt.size ?_; intro v' w6 hown2 hgr2 hat2))
      have Ho6 := Lib.hid (show w6.ownsRow w.heap.size 3 1 v' (k + 1) (docC (l.take (k + 1))) by
        rw [Hs2.out, docC_snoc]
        exact hown2)
      have Hg6 := Lib.hid (show Grow w w6 from ((Keep.grow (S := fun j => (Value.slice A1 k c1).ownBlock = some j) hgt).trans' (Keep.grown hgr2)).below (fun j hj => (hown.lt j hj).1) (Nat.le_refl _))
      clear hown hown2 hgr2 hat2 hR1 hgt hgA
      go_roundw
      case rel => exact ⟨k + 1, _, rfl, by omega, by go_num, Ho6, Hg6⟩
      case measure => simp [intOf]; omega
    · have d1 : decide ((k : Int) < (n : Int)) = false := decide_eq_false (by omega)
      obtain rfl : k = n := by omega
      have hlk := Hlen.out
      rw [List.take_of_length_le (Nat.le_of_eq hlk)] at ho
      have Ho := Lib.hid ho.out
      have Hg := Lib.hid hg.out
      rcases Nat.eq_zero_or_pos k with hk0 | hk0
      · subst hk0
        obtain rfl := List.eq_nil_of_length_eq_zero hlk
        obtain ⟨A1, c1, rfl⟩ := own_form ho.out
        have Hc := Lib.hid (Any.slices_Compact_int_empty Try.compact36 A1 c1 wr)
        clear ho hg hlk
        go_wp2_with fail
        refine Hc.out.mono ?_
        rintro e w' ⟨rfl, rfl⟩
        go_wp2_with fail
        go_ret
        exact ⟨A1, c1, rfl, ⟨rfl, fun h => absurd h (by simp [docsOf])⟩, Hg.out⟩
      · obtain ⟨g5, cap5, rfl, hgw, hgl, hnc, hcm⟩ := own_slice ho.out hk0
        have hzl : (l.map fun p => (p.1 : Int)).length = k := by rw [List.length_map, hlk]
        have Hc := Lib.hid (Any.slices_Compact_int_cells Try.compact36 g5 0 k cap5 (l.map fun p => (p.1 : Int)) wr (Nat.le_of_eq hzl.symm) (by omega) hnc (fun j hj => by
          rw [Nat.zero_add]
          refine own_cell ho.out (j := j) ?_
          rw [List.length_map] at hj
          rw [docC, List.getElem?_map, List.getElem?_eq_getElem hj, List.getD_eq_getElem?_getD, List.getElem?_map, List.getElem?_eq_getElem hj]
          rfl) (fun j hj => own_free ho.out _))
        rw [List.take_of_length_le (Nat.le_of_eq hzl), Hcd.out] at Hc
        have hdl : (docsOf l).length ≤ k := by
          rw [← hlk]
          have := List.length_filter_le (Lib.keeps (l.map fun p => (p.1 : Int)).toArray) (List.range (l.map fun p => (p.1 : Int)).length)
          have h2 := congrArg List.length Hcd.out
          unfold Lib.compact Lib.compactUpTo at h2
          simp only [List.length_map, List.length_range] at h2 this
          omega
        clear ho hg
        go_wp2_with fail
        refine Hc.out.mono ?_
        rintro e w' ⟨rfl, q, rfl⟩
        have ho2 : (wr.drewN q).ownsRow w.heap.size 3 1 (.slice (some ⟨g5, 0, none⟩) k cap5) k (docC l) := own_below Ho.out (Grow.drewN wr q)
        have ho3 := setCells_own (((docsOf l).map (fun d : Nat => (d : Int)) ++ List.replicate (k - ((docsOf l).map fun d : Nat => (d : Int)).length) 0).map (Value.int .i64)) ho2 0
        have hk3 := setCells_keep g5 (((docsOf l).map (fun d : Nat => (d : Int)) ++ List.replicate (k - ((docsOf l).map fun d : Nat => (d : Int)).length) 0).map (Value.int .i64)) (wr.drewN q) 0
        have Ho3 := Lib.hid ho3
        have Hk3 := Lib.hid hk3
        clear ho2 ho3 hk3
        obtain ⟨ds, hds⟩ : ∃ ds, ds = (docsOf l).map fun d : Nat => (d : Int) := ⟨_, rfl⟩
        rw [← hds] at Ho3 Hk3 ⊢
        have hdl2 : ds.length ≤ k := by rw [hds, List.length_map]; exact hdl
        obtain ⟨w', hw'⟩ : ∃ w', (wr.drewN q).setCells g5 0 ((ds ++ List.replicate (k - ds.length) 0).map (Value.int .i64)) = w' := ⟨_, rfl⟩
        rw [hw'] at Ho3 Hk3 ⊢
        have hrow : setRow (docC l) 0 ((ds ++ List.replicate (k - ds.length) 0).map (Value.int .i64)) = (ds ++ List.replicate (k - ds.length) 0).map (Value.int .i64) := by
          have hcl : ((ds ++ List.replicate (k - ds.length) 0).map (Value.int .i64)).length = k := by
            rw [List.length_map, List.length_append, List.length_replicate]
            omega
          refine List.ext_getElem? fun j => ?_
          rw [setRow_get _ _ _ _ (by rw [hcl, docC_len, hlk, Nat.zero_add]; exact Nat.le_refl _), hcl]
          split
          · rw [Nat.sub_zero]
          · rename_i hj
            rw [List.getElem?_eq_none (by rw [docC_len, hlk]; omega), List.getElem?_eq_none (by rw [hcl]; omega)]
        have HI := Lib.hid (show IntsAt w' w'.heap.size (some ⟨g5, 0, none⟩) ds.length ds from by
          obtain ⟨A', c', e', -, -, hR⟩ := own_reads Ho3.out
          injection e' with e1 e2 e3
          subst e1
          rw [hrow] at hR
          have h := hR.head ds.length hdl2
          unfold IntsAt
          have e : ((ds ++ List.replicate (k - ds.length) 0).map (Value.int .i64)).take (ds.length * 1) = ds.map i64v := by
            rw [Nat.mul_one, ← List.map_take, List.take_left]
            rfl
          rw [e] at h
          exact h)
        have HgF := Lib.hid (show Grow w w' from ((Keep.grow (S := fun j => j = g5) (Hg.out.trans (Grow.drewN wr q))).trans' Hk3.out).below (fun j hj => by rw [hj]; exact hgw) (Nat.le_refl _))
        clear hw' Ho3 Hk3 hrow hdl hzl hgl
        obtain ⟨m, hm⟩ : ∃ m, m = ds.length := ⟨_, rfl⟩
        have Hds := Lib.hid hds
        have Hm := Lib.hid hm
        rw [← hm]
        clear hds hm
        go_wp2_with fail
        go_ret
        rw [← Hds.out]
        exact ⟨some ⟨g5, 0, none⟩, cap5, by rw [Hm.out]; rfl, HI.out, HgF.out⟩
theorem up_nearF {F : List (List Pl)} (h : ∀ L ∈ F, Up L) : Up (nearF F) := by
  cases F with
  | nil => exact List.Pairwise.nil
  | cons a r => exact List.Pairwise.filter _ (h a (by simp))
theorem nearF_len {F : List (List Pl)} {m : Nat} (h : ∀ L ∈ F, L.length ≤ m) : (nearF F).length ≤ m := by
  cases F with
  | nil => exact Nat.zero_le _
  | cons a r => exact Nat.le_trans (List.length_filter_le _ _) (h a (by simp))
/-- where a run may stand, by postings -/
def nearS (ps : List (ByteArray × List Pl)) (s : ByteArray) : List Pl := nearF ((GramM.grams s.data.toList).map fun g => findP ps (grS g))
set_option maxRecDepth 100000 in
set_option maxHeartbeats 1000000 in
theorem nDocs_any (w : World) (B : Nat) (s : ByteArray) (A : Option Addr) (n c : Nat) (ps : List (ByteArray × List Pl)) (h : PostsAt w B A n ps) (hB : B ≤ w.heap.size) (hn : n ≤ 1000000000) (hd : (ps.map (·.1)).Nodup)
    (hps : ∀ p ∈ ps, p.2.length ≤ 1000000000 ∧ Up p.2 ∧ ∀ x ∈ p.2, x.2 ≤ 100000000) (hs : s.size ≤ 1000000) :
    Calls Try.prog 10 #[.slice A n c, .string s] w (IntsNew w ((docsOf (nearS ps s)).map fun d : Nat => (d : Int))) := by
  have hfp : ∀ g : ByteArray, (findP ps g).length ≤ 1000000000 ∧ Up (findP ps g) := fun g => by
    unfold findP
    split
    · rename_i p hp
      exact ⟨(hps p (List.mem_of_find?_eq_some hp)).1, (hps p (List.mem_of_find?_eq_some hp)).2.1⟩
    · exact ⟨Nat.zero_le _, List.Pairwise.nil⟩
  have Hup := Lib.hid (show Up (nearS ps s) from up_nearF fun L hL => by
    obtain ⟨g, -, rfl⟩ := List.mem_map.1 hL
    exact (hfp _).2)
  have Hlen := Lib.hid (show (nearS ps s).length ≤ 1000000000 from nearF_len fun L hL => by
    obtain ⟨g, -, rfl⟩ := List.mem_map.1 hL
    exact (hfp _).1)
  have Hpl := Lib.hid (show Calls Try.prog 7 #[.slice A n c, .string s] w fun e w' => ∃ v, e = .returned v ∧ w'.ownsRow w.heap.size 33 2 v (nearS ps s).length (plCs (nearS ps s)) ∧ Grow w w' from nPlaces_any w B s A n c ps h hB hn hd hps hs)
  clear h hd hps hfp
  obtain ⟨P, hP⟩ : ∃ P, P = nearS ps s := ⟨_, rfl⟩
  rw [← hP] at Hup Hlen Hpl ⊢
  clear hP
  go_enter Try.func10, Try.ntmps10
  go_wp2_with fail
  refine Hpl.out.mono ?_
  rintro e w2 ⟨v, rfl, ho, hg⟩
  obtain ⟨A2, c2, rfl, hpl⟩ := own_pls' ho rfl
  have Hd := Lib.hid (pDocs_any w2 w2.heap.size A2 P.length c2 P hpl (Nat.le_refl _) Hup.out Hlen.out)
  have Hg := Lib.hid hg
  clear ho hg hpl Hpl
  go_wp2_with fail
  refine Hd.out.mono ?_
  rintro e w3 ⟨A3, c3, rfl, hI, hg3⟩
  have HI := Lib.hid hI
  have Hg3 := Lib.hid hg3
  obtain ⟨ds, hds⟩ : ∃ ds, ds = (docsOf P).map fun d : Nat => (d : Int) := ⟨_, rfl⟩
  rw [← hds] at HI ⊢
  have Hds := Lib.hid hds
  clear hI hg3 hds Hd
  obtain ⟨m, hm⟩ : ∃ m, m = ds.length := ⟨_, rfl⟩
  have Hm := Lib.hid hm
  rw [← hm]
  clear hm
  go_wp2_with fail
  go_ret
  rw [← Hds.out]
  exact ⟨A3, c3, by rw [Hm.out]; rfl, HI.out, Hg.out.trans Hg3.out⟩
end Go.Proofs.Ytamdejidkgnaeaa
