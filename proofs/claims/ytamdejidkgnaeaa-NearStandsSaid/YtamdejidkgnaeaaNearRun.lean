/-
  The walk of gram's Run: the grams of a text, one behind the other. (printed by gen/gramrun.py)
-/
import Derived.Test.YtamdejidkgnaeaaGramRef
import Derived.Test.YtamdejidkgnaeaaGramOut
import Derived.Lib.ConvBytes
import Derived.Deep.LoopGhost
import Derived.BigQuiet
import Derived.WalkMore
import Derived.RangeFuncBox
import Derived.RangeFuncCalls
import Derived.RegionIn
import Derived.BigRegionIn
namespace Go.Proofs.Ytamdejidkgnaeaa
open Go.RowKit Go.Shelf GramM
set_option linter.unusedVariables false
attribute [local go_sem] Oper.semAt_some
theorem results_cell1 {P : Program} {fn : Func} {p : Tmp} {t : TypeId} (h : fn.results = #[.cell p t]) (tmps : Array Value) (w : World) (g : Nat) (x : Value)
    (hp : tmps.getD p undef = .pointer (some ⟨g, 0, none⟩)) (hx : (loadVar t ⟨g, 0, none⟩).run P w = .ok x w) :
    (results fn tmps).run P w = .ok x w := by
  have hp' : tmps[p]?.getD undef = .pointer (some ⟨g, 0, none⟩) := by simpa using hp
  simp [results, h, hp', asAddr, hx]
/-- what the rounds of Run keep -/
structure RunI (w : World) (gs : List Gr) (D lp : Nat) (o : Obj) (k : Nat) (W : World) : Prop where
  loop : W.heap[lp]? = some o
  defers : W.heap[D]? = some (.deferred (some []))
  box : ∃ v, Blk W w.heap.size 23 #[v] ∧ W.ownsRow (w.heap.size + 2) 9 1 v (gs.take k).length (grT (gs.take k))
  grow : Grow w W
/-- one text is put behind the others, and the row's slice is laid in its box -/
def runW (w0 : World) (l : Value) (bx base n : Nat) (xs : List Value) : List Value → World → Prop
  | [], w => Grow w0 w
  | [v], w => w.ownsRow base 9 1 v n xs ∧ Keep (fun j => l.ownBlock = some j) w0 w
  | [v, _], w => Blk w bx 23 #[v] ∧ w.ownsRow base 9 1 v n xs ∧ Keep (fun j => j = bx ∨ l.ownBlock = some j) w0 w
  | _, _ => False
theorem runW.grow {w0 : World} {l : Value} {bx base n : Nat} {xs : List Value} : ∀ (vals : List Value) (x y : World), Grow x y → runW w0 l bx base n xs vals x → runW w0 l bx base n xs vals y
  | [], _, _, g, h => Grow.trans h g
  | [_], _, _, g, ⟨h1, h2⟩ => ⟨own_below h1 g, h2.trans' (Keep.grow g)⟩
  | [_, _], _, _, g, ⟨h0, h1, h2⟩ => ⟨blkOf g h0, own_below h1 g, h2.trans' (Keep.grow g)⟩
  | _ :: _ :: _ :: _, _, _, _, h => h
set_option maxRecDepth 100000 in
set_option maxHeartbeats 4000000 in
theorem gRun_any (w : World) (s : ByteArray) (hn : s.size ≤ 1099511627776) :
    Calls Try.prog 14 #[.string s] w (TextsTo w (grams s.data.toList)) := by
  have textTy : AppTy Try.prog 23 9 (.string .empty) 1 16 := AppTy.mk' Try.underlying23 (by kernel_rfl) rfl (by decide)
  have Hgl := Lib.hid (show (grams s.data.toList).length = s.size - 2 by rw [grams_len]; rfl)
  have Hcon := Lib.hid (show ∀ W : World, (convert 9 26 (.string s)).run Try.prog W = .ok (.slice (some ⟨W.heap.size, 0, none⟩) s.size (grownCap W s.size 0 5)) (Lib.bytesWorld W 5 s) from fun W => Lib.run_convert_string_bytes W 9 26 5 s Try.underlying9 Try.underlying26 Try.underlying5)
  have Hby := Lib.hid (show ∀ W : World, BytesAt (Lib.bytesWorld W 5 s) (W.heap.size + 1) (some ⟨W.heap.size, 0, none⟩) s.size s.data.toList ∧ Grow W (Lib.bytesWorld W 5 s) from fun W => by
    refine ⟨⟨by simp, fun hp => ⟨W.heap.size, 0, rfl, by omega, fun j u hu => ?_⟩⟩, ⟨rfl, rfl, rfl, by rw [Lib.bytesWorld_size]; omega, fun k hk => Lib.bytesWorld_at_old _ _ _ _ hk⟩⟩
    rw [List.getElem?_map, Option.map_eq_some_iff] at hu
    obtain ⟨x, hx, rfl⟩ := hu
    have hj : j < s.size := by
      have := (List.getElem?_eq_some_iff.1 hx).1
      simpa using this
    rw [Nat.zero_add, Lib.bytesWorld_cell _ _ _ _ hj, List.getD_eq_getElem?_getD, hx]
    rfl)
  refine (callsIn_wide (n := 4)).1 ?_
  refine callsIn_of_wp_marks Try.func14 rfl trivial ?_ rfl
  simp only [Try.ntmps14, List.size_toArray, List.length_cons, List.length_nil, Nat.reduceSub, Nat.reduceAdd, Array.replicate_succ, Array.replicate_zero, List.push_toArray, List.append_toArray, List.nil_append, List.cons_append]
  have hcon := Hcon.out (w.alloc (.cells #[.slice none 0 0] 23))
  have hW00 : ∃ W0, Lib.bytesWorld (w.alloc (.cells #[.slice none 0 0] 23)) 5 s = W0 := ⟨_, rfl⟩
  obtain ⟨W0, hW0⟩ := hW00
  have hz1 : (w.alloc (.cells #[.slice none 0 0] 23)).heap.size = w.heap.size + 1 := by simp
  obtain ⟨hb0, hg0⟩ := Hby.out (w.alloc (.cells #[.slice none 0 0] 23))
  rw [hz1] at hb0 hcon
  rw [hW0] at hb0 hg0 hcon
  have hG0 : Grow w W0 := (Grow.alloc _ _).trans hg0
  have hbO : Blk W0 w.heap.size 23 #[.slice none 0 0] := blkOf hg0 (Blk.new _ _ _)
  obtain ⟨c, hc⟩ : ∃ c, c = grownCap (w.alloc (.cells #[.slice none 0 0] 23)) s.size 0 5 := ⟨_, rfl⟩
  have Hnc := Lib.hid (show s.size ≤ c by rw [hc]; exact grownCap_ge _ _ _ _)
  have Hcm := Lib.hid (show c ≤ maxLen by rw [hc]; exact grownCap_le_maxLen _ _ _ _ (by unfold maxLen; omega))
  rw [← hc] at hcon
  obtain ⟨n, hsn⟩ : ∃ n, n = s.size := ⟨_, rfl⟩
  rw [← hsn] at hcon Hgl Hnc hb0 hn
  have hz0 : w.heap.size + 2 ≤ W0.heap.size := by
    have := hg0.size
    have h2 := Hby.out (w.alloc (.cells #[.slice none 0 0] 23))
    rw [hW0, hz1] at h2
    rw [← hW0, Lib.bytesWorld_size, hz1]
    omega
  have Hgl2 := Lib.hid (show n - 2 = (grams s.data.toList).length from Hgl.out.symm)
  obtain ⟨bs, hbs⟩ : ∃ bs, bs = s.data.toList := ⟨_, rfl⟩
  rw [← hbs] at hb0 Hgl Hgl2 ⊢
  obtain ⟨gs, hgs⟩ : ∃ gs, gs = grams bs := ⟨_, rfl⟩
  have Hgs := Lib.hid hgs
  have Hb0 := Lib.hid hb0
  have HG0 := Lib.hid hG0
  have HbO := Lib.hid hbO
  clear hz1 hg0 hG0 hbO hc hsn hbs hgs hW0 hb0 Hcon Hby
  gi_wp2_with (refine ⟨trivial, ?_⟩; gi_at_call 26; refine (callsIn_wide.2 (gall_any (some ⟨w.heap.size + 1, 0, none⟩) n c _)).mono ?_; rintro e w' ⟨rfl, rfl⟩)
  obtain ⟨A, hA⟩ : ∃ A : Option Addr, A = some ⟨w.heap.size + 1, 0, none⟩ := ⟨_, rfl⟩
  rw [← hA] at Hb0 ⊢
  have HA := Lib.hid (show ∀ ad, A = some ad → ad.block = w.heap.size + 1 from fun ad e => by rw [hA] at e; injection e with e; rw [← e])
  clear hcon hA
  obtain ⟨W5, hW5⟩ : ∃ W5, W0.alloc (.cells #[.slice A n c] 26) = W5 := ⟨_, rfl⟩
  have hx5 : Boxed W5 W0.heap.size 26 (.slice A n c) := by rw [← hW5]; exact Boxed.new _ _ _
  have hG5 : Grow W0 W5 := by rw [← hW5]; exact Grow.alloc _ _
  rw [hW5]
  have hz5 : W0.heap.size < W5.heap.size := hx5.lt
  clear hW5
  refine rangeJ rfl (by omega) (gf := 40) (lb := #[.pointer (some ⟨W0.heap.size, 0, none⟩)]) rfl trivial (enters_of Try.func40 (by kernel_rfl) rfl) ?_
  intro fn rec W6 _ hrec hg6 hz6 hD6 hlp6
  have hk6 : Keep (fun _ => False) W5 W6 := (Keep.grown hg6).mono fun j h => by cases h
  have hG6 : Grow W5 W6 := hk6.below (fun _ h => h.elim) (Nat.le_refl _)
  have hG56 := hG5.trans hG6
  have hGw := HG0.out.trans hG56
  have hJ0 : RunI w (grams bs) W5.heap.size (W5.heap.size + 1) (.loop (rec .ready none)) 0 W6 := ⟨hlp6, hD6, ⟨_, blkOf hG56 HbO.out, World.ownsRow_nil _ _ _ _⟩, hGw⟩
  refine (gall1_any 3 (by omega) (W5.heap.size + 1) W0.heap.size W0.heap.size A n c bs Hnc.out Hcm.out (fun k W => RunI w (grams bs) W5.heap.size (W5.heap.size + 1) (.loop (rec .ready none)) k W) ?yes W6 ((Hb0.out.more hz0).below (Below.mono hG56 (Nat.le_refl _))) (Keep.blk hk6 (show Blk W5 W0.heap.size 26 #[.slice A n c] from hx5) (fun h => h)) hJ0).mono ?_
  case yes =>
    clear hJ0 hk6 hg6 hD6 hlp6 hx5 hG6 hGw hG56
    intro k g W hgk hJ hbx hbb
    refine yieldJ trivial hrec hJ.loop rfl ?_
    unfold gv b8
    gi_wp2
    have hga : Grow W (W.alloc (.cells #[b8 g.1, b8 g.2.1, b8 g.2.2] 69)) := Grow.alloc _ _
    have hgb : Blk (W.alloc (.cells #[b8 g.1, b8 g.2.1, b8 g.2.2] 69)) W.heap.size 69 #[b8 g.1, b8 g.2.1, b8 g.2.2] := Blk.new _ _ _
    have hlw := (Array.getElem?_eq_some_iff.1 hJ.loop).1
    have hla : (W.alloc (.cells #[b8 g.1, b8 g.2.1, b8 g.2.2] 69)).heap[W5.heap.size + 1]? = some (.loop (rec .ready none)) := (hga.block _ hlw).trans hJ.loop
    obtain ⟨Wa, hWa⟩ : ∃ Wa, W.alloc (.cells #[b8 g.1, b8 g.2.1, b8 g.2.2] 69) = Wa := ⟨_, rfl⟩
    have hWsz : Wa.heap.size = W.heap.size + 1 := by rw [← hWa]; simp
    rw [hWa] at hga hgb hla
    rw [show (W.alloc (.cells #[.int .u8 (g.1.toNat : Int), .int .u8 (g.2.1.toNat : Int), .int .u8 (g.2.2.toNat : Int)] 69)) = Wa from hWa]
    clear hWa
    refine roundBody.mk hla fun w2 hg2 hl2 => ?_
    have hk2 : Keep (fun j => j = W5.heap.size + 1) W w2 := (Keep.grow hga).trans' ((Keep.grown hg2).mono fun j hj => by injection hj with hj; exact Or.inl hj.symm)
    obtain ⟨v, hG, hown⟩ := hJ.box
    have hnl : ∀ j cs t, j = W5.heap.size + 1 → W.heap[j]? ≠ some (.cells cs t (0, 0)) := fun j cs t e q => by
      rw [e, hJ.loop] at q
      cases q
    have hgw := hJ.grow.size
    have hG2 : Blk w2 w.heap.size 23 #[v] := hk2.blk hG (by omega)
    have hown2 := hk2.own hown fun b hb e => by
      obtain ⟨cur, q⟩ := own_obj hown hb
      exact hnl _ _ _ e q
    have hD2 : w2.heap[W5.heap.size]? = some (.deferred (some [])) := hk2.obj hJ.defers (by omega)
    have hgb2 : Blk w2 W.heap.size 69 #[b8 g.1, b8 g.2.1, b8 g.2.2] := (Keep.grown hg2).blk hgb (by simp; omega)
    have hbx2 : Blk w2 W0.heap.size 26 #[.slice A n c] := hk2.blk (show Blk W W0.heap.size 26 #[.slice A n c] from hbx) (by omega)
    have hwz : w.heap.size < W.heap.size := hG.lt
    have hW0z : W0.heap.size < W.heap.size := hbx.lt
    have hw2z : W.heap.size ≤ w2.heap.size := hk2.size
    obtain ⟨A1, c1, rfl, -, -, -⟩ := own_reads hown2
    obtain ⟨q, hq⟩ : ∃ q, q = (gs.take k).length := ⟨_, rfl⟩
    have hgsb : gs = grams bs := Hgs.out
    rw [← hgsb] at hown hown2 hJ hgk
    rw [← hgsb] at hG hG2
    rw [← hq] at hown hown2 hG hG2
    have hqn : q ≤ n := by
      rw [hq]
      refine Nat.le_trans (List.length_take_le _ _) ?_
      have h2 := (List.getElem?_eq_some_iff.1 hgk).1
      have h3 := Hgl.out
      rw [← hgsb] at h3
      omega
    obtain ⟨t, ht⟩ : ∃ t, t = grS g := ⟨_, rfl⟩
    have Hs2 := Lib.hid (show grT (gs.take (k + 1)) = grT (gs.take k) ++ [.string t] ∧ (gs.take (k + 1)).length = q + 1 by
      rw [List.take_add_one, hgk, ht, hq]
      exact ⟨grT_snoc _ _, by simp⟩)
    have hlS : ∀ j, (j = w.heap.size ∨ (Value.slice A1 q c1).ownBlock = some j) → j < w2.heap.size := fun j h => by
      rcases h with h | h
      · omega
      · exact (hown2.lt j h).2
    have hlo : ∀ j o, w2.heap[j]? = some o → (∀ cs, o ≠ .cells cs 9 (0, 0)) → ¬ (Value.slice A1 q c1).ownBlock = some j := fun j o ho hno e => by
      obtain ⟨cur, q⟩ := own_obj hown2 e
      rw [ho] at q
      injection q with q
      exact hno _ q
    have Hbx := Lib.hid hG2
    have Hbl := Lib.hid (hlo _ _ (show w2.heap[w.heap.size]? = _ from hG2) (fun cs q => by cases q))
    have Hcv := Lib.hid (show ∀ w', Keep (fun j => j = w.heap.size ∨ (Value.slice A1 q c1).ownBlock = some j) w2 w' → (convert 26 9 (.slice (some ⟨W.heap.size, 0, none⟩) 3 3)).run Try.prog w' = .ok (.string t) w' from fun w' h => by
      have hb := h.blk hgb2 (by
        rintro (e | e)
        · omega
        · exact hlo _ _ (show w2.heap[W.heap.size]? = _ from hgb2) (fun cs q => by cases q) e)
      rw [ht]
      exact conv3 w' W.heap.size 0 3 g.1 g.2.1 g.2.2 (hb.cell 0) (hb.cell 1) (hb.cell 2))
    have Hol := Lib.hid hown2
    have Hbz := Lib.hid (show w.heap.size + 2 ≤ w2.heap.size by omega)
    have HD2 := Lib.hid hD2
    have Hbx2 := Lib.hid hbx2
    have Hbxo := Lib.hid hbx
    have HJ := Lib.hid hJ
    have Hgk := Lib.hid hgk
    have Hbb := Lib.hid hbb
    have Hl2 := Lib.hid hl2
    have Hk2 := Lib.hid hk2
    clear hJ hgk hbx hbb hG2 hown2 hD2 hbx2 hgb2 hG hown hnl hla hgb hl2 hk2 hg2 hga hlw hgsb hq ht
    gi_wp2_with fail
    refine wpIn_region_stages (by kernel_rfl) (by kernel_rfl) ?_
    refine anyOrder_start [4, 5] (Keep (fun j => j = w.heap.size ∨ (Value.slice A1 q c1).ownBlock = some j)) (runW w2 (.slice A1 q c1) w.heap.size (w.heap.size + 2) (q + 1) (grT (gs.take k) ++ [.string t])) (FactsOn [.is (.slice A1 q c1), .is (.slice (some ⟨W.heap.size, 0, none⟩) 3 3), .is (.string t), .newS1 w2.heap.size hlS 9 [.string t], .any, .any]) (fun i => if i = 0 then 0 else 99) keep_trans keep_grow (runW.grow) (factsOn_mono _) (by kernel_rfl) (by kernel_rfl) (Grow.refl _) ?_ ?_
    · refine ⟨?_, ?_, ?_, ?_, ?_, ?_, trivial⟩
      · refine stageOf_free rfl (fun _ _ _ _ _ _ => wanted_none rfl) ?_
        intro us vals w3 a' ha hle hW hd hv K hK
        obtain rfl := List.eq_nil_of_length_eq_zero (Nat.le_zero.1 (show vals.length ≤ 0 from hv))
        have q2 : a'.tmps[2]? = some (.pointer (some ⟨w.heap.size, 0, none⟩)) := slot_old ha (by kernel_rfl) (by kernel_rfl)
        have hc := (blkOf hW Hbx.out).cell 0
        refine step_value (v := .slice A1 q c1) (w2 := w3) ?_ (hK _ _ (Grow.refl _) rfl)
        go_simp
      · refine stageOf_free rfl (fun _ _ _ _ _ _ => wanted_none rfl) ?_
        intro us vals w3 a' ha hle hW hd hv K hK
        have q4 : a'.tmps[4]? = some (.pointer (some ⟨W.heap.size, 0, none⟩)) := slot_old ha (by kernel_rfl) (by kernel_rfl)
        refine step_value (v := .slice (some ⟨W.heap.size, 0, none⟩) 3 3) (w2 := w3) ?_ (hK _ _ (Grow.refl _) rfl)
        go_simp
      · refine stageOf_free rfl (fun _ _ _ _ _ _ => wanted_none rfl) ?_
        intro us vals w3 a' ha hle hW hd hv K hK
        obtain ⟨d1, _⟩ := hd
        have q11 : a'.tmps[11]? = some (us 1) := slot_get ha 1 (by kernel_rfl) (by kernel_rfl)
        rw [show us 1 = .slice (some ⟨W.heap.size, 0, none⟩) 3 3 from d1] at q11
        have hc := Hcv.out w3 hle
        refine step_value (v := .string t) (w2 := w3) ?_ (hK _ _ (Grow.refl _) rfl)
        go_simp
      · refine stageOf_free rfl (fun _ _ _ _ _ _ => wanted_none rfl) ?_
        intro us vals w3 a' ha hle hW hd hv K hK
        obtain ⟨d2, _⟩ := hd
        have q12 : a'.tmps[12]? = some (us 2) := slot_get ha 2 (by kernel_rfl) (by kernel_rfl)
        rw [show us 2 = .string t from d2] at q12
        refine step_value (v := .slice (some ⟨w3.heap.size, 0, none⟩) 1 1) (w2 := w3.alloc (.cells #[.string t] 9)) (by go_simp) (hK _ _ (Grow.alloc _ _) ?_)
        exact ⟨_, rfl, hle.size, Blk.new _ _ _⟩
      · refine stageOf_mem (t := 0) rfl ?_
        intro us vals w3 a' ha hle hW hd hv
        obtain ⟨d0, ⟨m3, u3, z3, b3⟩, _⟩ := hd
        obtain rfl := List.eq_nil_of_length_eq_zero (Nat.le_zero.1 (show vals.length ≤ 0 from Nat.le_of_eq hv))
        refine ⟨wanted_none rfl, fun K hK => ?_⟩
        have q10 : a'.tmps[10]? = some (us 0) := slot_get ha 0 (by kernel_rfl) (by kernel_rfl)
        rw [show us 0 = .slice A1 q c1 from d0] at q10
        have q13 : a'.tmps[13]? = some (us 3) := slot_get ha 3 (by kernel_rfl) (by kernel_rfl)
        rw [u3] at q13
        have hown := own_below Hol.out hW
        refine wp_append_reads w3 (.tmp 10) (.tmp 13) rfl textTy (evalT q10) hown (evalT q13) (readsB (cs := [.string t]) rfl b3) (by simp [Value.oneCell']) (by simp only [maxLen]; omega) (by omega) (Nat.le_trans Hbz.out hle.size) ?_
        intro v2 w4 ho hgr hat
        have hk := (Keep.grown hgr).mono (T := fun j => (Value.slice A1 q c1).ownBlock = some j) fun j hj => Or.inl hj
        exact hK _ _ (hk.mono fun j hj => Or.inl (Or.inr hj)) ⟨ho, (Keep.grow hW).trans' hk⟩
      · refine stageOf_mem (t := 1) rfl ?_
        intro us vals w3 a' ha hle hW hd hv
        obtain ⟨d4, _, _, _, _, _, _, _⟩ := hd
        obtain ⟨x0, rfl⟩ := List.length_eq_one_iff.1 hv
        obtain rfl : us 4 = x0 := by have h0 : some x0 = some (us 4) := d4; injection h0 with h0; exact h0.symm
        refine ⟨wanted_none rfl, fun K hK => ?_⟩
        have q2 : a'.tmps[2]? = some (.pointer (some ⟨w.heap.size, 0, none⟩)) := slot_old ha (by kernel_rfl) (by kernel_rfl)
        have q14 : a'.tmps[14]? = some (us 4) := slot_get ha 4 (by kernel_rfl) (by kernel_rfl)
        have hb3 := hW.2.blk Hbx.out Hbl.out
        have hf := hb3.frozen 0
        have hc := hb3.cell 0
        obtain ⟨A5, c5, e5, -⟩ := own_reads hW.1
        rw [e5] at q14
        refine step_skip (w2 := w3.setCell ⟨w.heap.size, 0, none⟩ (us 4)) ?_ (hK _ _ ((Keep.setCell w3 ⟨w.heap.size, 0, none⟩ (us 4)).mono fun j hj => Or.inl (Or.inl hj)) ⟨hb3.set 0 (us 4), (Keep.setCell w3 ⟨w.heap.size, 0, none⟩ (us 4)).own hW.1 (fun j h1 h2 => by have := (hW.1.lt j h1).1; have h2 : j = w.heap.size := h2; omega), (hW.2.mono fun j hj => Or.inl (Or.inr hj)).trans' ((Keep.setCell w3 ⟨w.heap.size, 0, none⟩ (us 4)).mono fun j hj => Or.inl (Or.inl hj))⟩)
        rw [e5]
        go_simp
    · intro us vals w4 hle hvl hV hv hf
      obtain ⟨a0, a1, rfl⟩ : ∃ a0 a1, vals = [a0, a1] := by match vals, hvl with | [a0, a1], _ => exact ⟨a0, a1, rfl⟩
      obtain ⟨hB4, ho4, hk4⟩ := hV
      clear hf hv hle hvl
      generalize fills _ _ _ _ = a4
      have hlp : ∀ j, (j = w.heap.size ∨ (Value.slice A1 q c1).ownBlock = some j) → w.heap.size ≤ j := fun j h => by
        rcases h with h | h
        · omega
        · have := (Hol.out.lt j h).1
          omega
      have hlz : w4.heap[W5.heap.size + 1]? = some (.loop (rec .busy none)) := hk4.obj Hl2.out (by
        rintro (h | h)
        · omega
        · exact hlo _ _ Hl2.out (fun cs q => by cases q) h)
      have hvD := hlo _ _ HD2.out (fun cs q => by cases q)
      have hvB := hlo _ _ (show w2.heap[W0.heap.size]? = _ from Hbx2.out) (fun cs q => by cases q)
      simp only [Exit.inBlock]
      refine roundEnd.on hlz fun w' hg' hl' => ⟨rfl, ?_, ?_, ?_⟩
      all_goals
        obtain ⟨S, hS⟩ : ∃ S : Nat → Prop, S = fun j => j = W5.heap.size + 1 ∨ j = w.heap.size ∨ (Value.slice A1 q c1).ownBlock = some j := ⟨_, rfl⟩
        have hSof : ∀ j, (j = W5.heap.size + 1 ∨ j = w.heap.size ∨ (Value.slice A1 q c1).ownBlock = some j) → S j := fun j h => by rw [hS]; exact h
        have hSis : ∀ j, S j → (j = W5.heap.size + 1 ∨ j = w.heap.size ∨ (Value.slice A1 q c1).ownBlock = some j) := fun j h => by rw [hS] at h; exact h
        have hge : ∀ j, S j → w.heap.size ≤ j := fun j hj => by
          rcases hSis j hj with h | h
          · omega
          · exact hlp j h
        have hkf : Keep S W w' := ((Hk2.out.mono fun j hj => Or.inl (hSof j (Or.inl hj))).trans' (hk4.mono fun j hj => Or.inl (hSof j (Or.inr hj)))).trans' ((Keep.grown hg').mono fun j hj => Or.inl (hSof j (Or.inl (by injection hj with hj; exact hj.symm))))
      · refine ⟨hl', hkf.obj HJ.out.defers ?_, ⟨a0, (Keep.grown hg').blk hB4 (by simp; omega), ?_⟩, ((Keep.grow (S := S) HJ.out.grow).trans' hkf).below hge (Nat.le_refl _)⟩
        · intro h0
          rcases hSis _ h0 with h | h | h
          · omega
          · omega
          · exact hvD h
        · rw [← Hgs.out, Hs2.out.1, Hs2.out.2]
          refine (Keep.grown hg').own ho4 fun b hb e => ?_
          injection e with e
          obtain ⟨cur, q2⟩ := own_obj ho4 hb
          rw [← e, hlz] at q2
          cases q2
      · refine hkf.blk (show Blk W W0.heap.size 26 #[.slice A n c] from Hbxo.out) ?_
        intro h0
        rcases hSis _ h0 with h | h | h
        · omega
        · omega
        · exact hvB h
      · refine hkf.reads Hbb.out (by omega) fun ad e h0 => ?_
        have h1 := HA.out ad e
        rw [h1] at h0
        rcases hSis _ h0 with h | h | h
        · omega
        · omega
        · have := (Hol.out.lt _ h).1
          omega
  clear hJ0 hk6 hg6 hD6 hlp6 hx5 hG6 hGw hG56
  rintro e W7 ⟨⟨vv, rfl⟩, hI⟩
  rw [Hgl2.out] at hI
  obtain ⟨v, hG, hown⟩ := hI.box
  rw [List.take_of_length_le (Nat.le_refl _)] at hown
  have HI := Lib.hid hI
  refine ⟨vv, _, _, rfl, by simp, hI.loop, fun W8 hg8 => ?_⟩
  have hk8 : Keep (fun j => j = W5.heap.size + 1) W7 W8 := (Keep.grown hg8).mono fun j hj => by injection hj with hj; exact Or.inl hj.symm
  have hgw := hI.grow.size
  have hG8 := hk8.blk hG (show ¬ (w.heap.size = W5.heap.size + 1) by omega)
  have hown8 := hk8.own hown fun b hb e => by
    obtain ⟨cur, q⟩ := own_obj hown hb
    have e : b = W5.heap.size + 1 := e
    rw [e, hI.loop] at q
    cases q
  have hD8 := hk8.obj hI.defers (show ¬ (W5.heap.size = W5.heap.size + 1) by omega)
  have hcG := hG8.cell 0
  have hfG := hG8.frozen 0
  obtain ⟨A2, c2, rfl, -, -, -⟩ := own_reads hown8
  have HG8 := Lib.hid hG8
  have Hown8 := Lib.hid hown8
  have HD8 := Lib.hid hD8
  have Hk8 := Lib.hid hk8
  clear hI hG hown hG8 hown8 hD8 hgw hg8 hk8
  simp only [Exit.inBlock, Exit.then]
  gi_wp2_with fail
  try rw [Exit.noGoto_ret]
  obtain ⟨m, hm⟩ : ∃ m, m = (grams bs).length := ⟨_, rfl⟩
  have Hown9 := Hown8.out
  have HG9 := HG8.out
  rw [← hm] at Hown9 HG9 ⊢
  clear hcG hfG
  have hs9 : Keep (fun j => j = w.heap.size) W8 (W8.setCell ⟨w.heap.size, 0, none⟩ (.slice A2 m c2)) := Keep.setCell W8 ⟨w.heap.size, 0, none⟩ (.slice A2 m c2)
  obtain ⟨W9, hW9⟩ : ∃ W9, W8.setCell ⟨w.heap.size, 0, none⟩ (.slice A2 m c2) = W9 := ⟨_, rfl⟩
  have hG9 : Blk W9 w.heap.size 23 #[.slice A2 m c2] := by
    have h := HG9.set 0 (.slice A2 m c2)
    rw [hW9] at h
    exact h
  rw [hW9] at hs9 ⊢
  have hD9 := hs9.obj HD8.out (show ¬ (W5.heap.size = w.heap.size) by omega)
  have hown9 := hs9.own Hown9 fun b hb e => by
    have := (Hown9.lt b hb).1
    have e : b = w.heap.size := e
    omega
  have hgr9 : Grow w W9 := ((Keep.grow (S := fun j => j = W5.heap.size + 1 ∨ j = w.heap.size) HI.out.grow).trans' ((Hk8.out.mono fun j hj => Or.inl (Or.inl hj)).trans' (hs9.mono fun j hj => Or.inl (Or.inr hj)))).below (fun j hj => by
    rcases hj with h | h
    · omega
    · omega) (Nat.le_refl _)
  refine leaves_marks (by simp) (B := w.heap.size + 2) [W5.heap.size] _ ⟨by simp, fun m hm => by simp at hm; omega, fun m hm => by simp at hm; rw [hm]; exact hD9⟩ fun w1 ho => ?_
  have hkM : Keep (fun j => j = W5.heap.size) W9 w1 := (Keep.only ho).mono fun j hj => Or.inl (by simpa using hj)
  have hG1 := hkM.blk hG9 (show ¬ (w.heap.size = W5.heap.size) by omega)
  have hc1 := hG1.cell 0
  have hown1 := hkM.own hown9 fun b hb e => by
    obtain ⟨cur, q⟩ := own_obj hown9 hb
    rw [e, hD9] at q
    cases q
  refine ⟨_, results_cell1 rfl _ _ w.heap.size (.slice A2 m c2) rfl (by go_simp), _, rfl, ((Keep.grow (S := fun j => j = W5.heap.size) hgr9).trans' hkM).below (fun j hj => by have hj : j = W5.heap.size := hj; omega) (Nat.le_refl _), ?_⟩
  rw [hm] at hown1 ⊢
  exact own_base hown1 (by omega)
end Go.Proofs.Ytamdejidkgnaeaa
