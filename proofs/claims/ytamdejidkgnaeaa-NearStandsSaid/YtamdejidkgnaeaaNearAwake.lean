/-
  The walk of near's awake: the chapter's example.
-/
import Derived.Test.YtamdejidkgnaeaaNearRef
import Derived.Test.YtamdejidkgnaeaaNearDocs
import Derived.Lib.SlBytesConst
namespace Go.Proofs.Ytamdejidkgnaeaa
open Go.RowKit GramM NearM
set_option linter.unusedVariables false
theorem plC_pls (l : List Nat) : plC l = plCs (l.map fun i => (0, i)) := by
  induction l with
  | nil => rfl
  | cons i l ih =>
    show [Value.int .i64 0, .int .i64 (i : Int)] ++ plC l = [Value.int .i64 ((0 : Nat) : Int), .int .i64 (i : Int)] ++ plCs (l.map fun i => (0, i))
    rw [ih]
    rfl
theorem RP.posts {W : World} {base n c : Nat} {A : Option Addr} {Q : List Gr} {f : Gr → List Nat} {F : Gr → Value} (h : RP W base (.slice A n c) Q f F) (hn : n = Q.length) : PostsAt W W.heap.size A n (Q.map fun g => (grS g, (f g).map fun i => (0, i))) := by
  obtain ⟨A', c', e, -, -, hr⟩ := own_reads h.row
  injection e with e1 e2 e3
  subst e1 e3
  refine ⟨by rw [List.length_map, hn], fun hpos => ?_⟩
  obtain ⟨b, off, rfl, hb, hc⟩ := hr.2 (by omega)
  refine ⟨b, off, rfl, hb, fun j a ha => ?_⟩
  rw [List.getElem?_map] at ha
  cases hg : Q[j]? with
  | none => rw [hg] at ha; cases ha
  | some g =>
    rw [hg] at ha
    injection ha with ha
    subst ha
    obtain ⟨e1, e2⟩ := poC_at (F := F) hg
    obtain ⟨A2, c2, e, h4, h5, h6⟩ := own_reads (h.own g (List.mem_of_getElem? hg))
    refine ⟨[.string (grS g), F g], rfl, ⟨A2, _, c2, by rw [e], h4, h5, by simp, by rw [plC_pls] at h6; exact h6⟩, fun i u hu => ?_⟩
    match i, hu with
    | 0, hu =>
      injection hu with hu
      rw [← hu]
      exact hc _ _ e1
    | 1, hu =>
      injection hu with hu
      rw [← hu]
      exact hc _ _ e2
def aw : List UInt8 := [97, 98, 97, 98, 99]
def awPs : List (ByteArray × List Pl) := [(⟨#[97, 98, 97]⟩, [(0, 0)]), (⟨#[97, 98, 99]⟩, [(0, 2)]), (⟨#[98, 97, 98]⟩, [(0, 1)])]
theorem aw_ps : ((insAllG (grams aw)).map fun g => (grS g, (posOf (grams aw) g (grams aw).length).map fun i => ((0 : Nat), i))) = awPs := by decide +kernel
theorem aw_len : (insAllG (grams aw)).length = 3 := by decide +kernel
theorem aw_nd : (awPs.map (·.1)).Nodup := by decide +kernel
theorem aw_ok : ∀ p ∈ awPs, p.2.length ≤ 1000000000 ∧ Up p.2 ∧ ∀ x ∈ p.2, x.2 ≤ 100000000 := fun p hp => by
  simp only [awPs, List.mem_cons, List.not_mem_nil, or_false] at hp
  rcases hp with rfl | rfl | rfl
  all_goals
    refine ⟨by simp, List.pairwise_singleton _ _, fun x hx => ?_⟩
    rw [List.mem_singleton.1 hx]
    omega
theorem aw_abc : nearF ((grams (⟨#[97, 98, 99]⟩ : ByteArray).data.toList).map fun g => findP awPs (grS g)) = [(0, 2)] := by decide +kernel
theorem aw_abab : nearF ((grams (⟨#[97, 98, 97, 98]⟩ : ByteArray).data.toList).map fun g => findP awPs (grS g)) = [(0, 0)] := by decide +kernel
theorem aw_baba : (docsOf (nearS awPs ⟨#[98, 97, 98, 97]⟩)).map (fun d : Nat => (d : Int)) = [] := by decide +kernel
set_option maxRecDepth 100000 in
set_option maxHeartbeats 4000000 in
theorem awake21_any (w : World) : Calls Try.prog 4 #[] w fun e w' => e = .returned (.bool true) ∧ Grow w w' := by
  have kc := fun (w : World) (C : Array Value) (n c : Nat) => Lib.run_convert_bytes_const (P := Try.prog) w 26 5 C n c Try.underlying26 Try.underlying5
  have hBy : ∀ W : World, BytesAt (W.alloc (.cells #[.int .u8 97, .int .u8 98, .int .u8 97, .int .u8 98, .int .u8 99] 5 (5, 6))) (W.heap.size + 1) (some ⟨W.heap.size, 0, none⟩) 5 aw := fun W => BytesAt.of_row (Cells.new W 5 ([97, 98, 97, 98, 99].map b8).toArray (5, 6)) (by simp)
  go_enter Try.func4, Try.ntmps4
  go_wp2_with fail
  have hg1 : Grow w (w.alloc (.cells #[.int .u8 97, .int .u8 98, .int .u8 97, .int .u8 98, .int .u8 99] 5 (5, 6))) := Grow.alloc _ _
  have hg2 : Grow (w.alloc (.cells #[.int .u8 97, .int .u8 98, .int .u8 97, .int .u8 98, .int .u8 99] 5 (5, 6))) ((w.alloc (.cells #[.int .u8 97, .int .u8 98, .int .u8 97, .int .u8 98, .int .u8 99] 5 (5, 6))).alloc (.cells #[.slice (some ⟨w.heap.size, 0, none⟩) 5 5] 26)) := Grow.alloc _ _
  have hz1 : (w.alloc (.cells #[.int .u8 97, .int .u8 98, .int .u8 97, .int .u8 98, .int .u8 99] 5 (5, 6))).heap.size = w.heap.size + 1 := by show (w.heap.push _).size = _; exact Array.size_push _
  have hx2 := World.alloc_heap_new (w.alloc (.cells #[.int .u8 97, .int .u8 98, .int .u8 97, .int .u8 98, .int .u8 99] 5 (5, 6))) (.cells #[.slice (some ⟨w.heap.size, 0, none⟩) 5 5] 26)
  have hby := hBy w
  clear hBy kc
  obtain ⟨w1, hw1⟩ : ∃ w1, w.alloc (.cells #[.int .u8 97, .int .u8 98, .int .u8 97, .int .u8 98, .int .u8 99] 5 (5, 6)) = w1 := ⟨_, rfl⟩
  rw [hw1] at hg1 hg2 hz1 hx2 hby ⊢
  obtain ⟨w2, hw2⟩ : ∃ w2, w1.alloc (.cells #[.slice (some ⟨w.heap.size, 0, none⟩) 5 5] 26) = w2 := ⟨_, rfl⟩
  rw [hw2] at hg2 hx2 ⊢
  have hz2 : w2.heap.size = w.heap.size + 2 := by
    rw [← hw2]
    have h : (w1.heap.push (.cells #[.slice (some ⟨w.heap.size, 0, none⟩) 5 5] 26)).size = w1.heap.size + 1 := Array.size_push _
    exact h.trans (by omega)
  have hrows : RowsAt w2 w2.heap.size (some ⟨w.heap.size + 1, 0, none⟩) 1 [aw] := ⟨rfl, fun _ => ⟨w.heap.size + 1, 0, rfl, by omega, fun k l hl => by
    match k, hl with
    | 0, hl =>
      injection hl with hl
      subst hl
      refine ⟨some ⟨w.heap.size, 0, none⟩, 5, 5, ?_, Nat.le_refl _, by decide, (hby.below (Below.mono hg2 (by omega))).more (by omega)⟩
      rw [hz1] at hx2
      simp only [World.cell?, hx2]
      rfl⟩⟩
  have hG2 : Grow w w2 := hg1.trans hg2
  have HG2 := Lib.hid hG2
  have Hmk := Lib.hid (rnMake_any w2 w2.heap.size _ 1 aw hrows (Nat.le_refl _) (by decide))
  clear hg1 hg2 hz1 hx2 hby hw1 hw2 hz2 hrows hG2
  refine Hmk.out.mono ?_
  rintro e w3 ⟨u, F, rfl, hg3, hRP⟩
  obtain ⟨A3, c3, rfl, -, hc3, -⟩ := own_reads hRP.row
  have hP := hRP.posts rfl
  rw [aw_ps, aw_len] at hP
  rw [aw_len]
  have hg3z := hg3.size
  have HG3 := Lib.hid (HG2.out.trans (show Grow w2 w3 from hg3))
  have Hpl := Lib.hid (nPlaces_any w3 w3.heap.size ⟨#[97, 98, 99]⟩ A3 3 c3 awPs hP (Nat.le_refl _) (by decide) aw_nd aw_ok (by decide))
  have HP := Lib.hid (show ∀ W, Grow w3 W → PostsAt W w3.heap.size A3 3 awPs from fun W hg => hP.grow hg (Nat.le_refl _))
  clear Hmk HG2 hg3 hRP hP
  go_wp2_with fail
  refine Hpl.out.mono ?_
  rintro e w4 ⟨v4, rfl, ho4, hg4⟩
  rw [aw_abc] at ho4
  obtain ⟨A4, c4, rfl, -, -, hr4⟩ := own_reads ho4
  have Hr4 := Lib.hid (show ReadsAt w4 w4.heap.size 2 A4 1 [.int .i64 0, .int .i64 2] from hr4)
  have Hpl2 := Lib.hid (nPlaces_any w4 w3.heap.size ⟨#[97, 98, 97, 98]⟩ A3 3 c3 awPs (HP.out w4 hg4) (hg4.size) (by decide) aw_nd aw_ok (by decide))
  have Hg4 := Lib.hid hg4
  clear ho4 hr4 hg4 Hpl
  rw [show ([(0, 2)] : List Pl).length = 1 from rfl]
  go_wp2_with fail
  refine Hpl2.out.mono ?_
  rintro e w5 ⟨v5, rfl, ho5, hg5⟩
  rw [aw_abab] at ho5
  obtain ⟨A5, c5, rfl, -, -, hr5⟩ := own_reads ho5
  have hr5 : ReadsAt w5 w5.heap.size 2 A5 1 [.int .i64 0, .int .i64 0] := hr5
  rw [show ([(0, 0)] : List Pl).length = 1 from rfl]
  obtain ⟨b4, o4, rfl, hb4, hc4⟩ := (Hr4.out.below (Below.mono hg5 (Nat.le_refl _))).2 (by omega)
  obtain ⟨b5, o5, rfl, hb5, hc5⟩ := hr5.2 (by omega)
  have hx4 : w5.cell? ⟨b4, o4 + 1, none⟩ = some (.int .i64 2) := hc4 1 _ rfl
  have hx5 : w5.cell? ⟨b5, o5 + 1, none⟩ = some (.int .i64 0) := hc5 1 _ rfl
  have Hg5 := Lib.hid (Hg4.out.trans hg5)
  have Hdc := Lib.hid (nDocs_any w5 w3.heap.size ⟨#[98, 97, 98, 97]⟩ A3 3 c3 awPs (HP.out w5 Hg5.out) (Hg5.out.size) (by decide) aw_nd aw_ok (by decide))
  clear ho5 hr5 hg5 Hpl2 hc4 hc5
  go_wp2_with fail
  refine Hdc.out.mono ?_
  unfold IntsNew
  rw [aw_baba]
  rintro e w6 ⟨A6, c6, rfl, -, hg6⟩
  have Hg6 := Lib.hid (HG3.out.trans (Hg5.out.trans hg6))
  clear hg6 Hdc
  rw [show ([] : List Int).length = 0 from rfl]
  go_wp2_with fail
  go_ret
  exact ⟨rfl, Hg6.out⟩
end Go.Proofs.Ytamdejidkgnaeaa
