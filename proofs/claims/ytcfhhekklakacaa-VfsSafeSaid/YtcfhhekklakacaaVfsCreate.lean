/-
  The walks of a disk's Create, and of what undoes it. (printed by gen/vcreate.py)
-/
import Derived.Test.YtcfhhekklakacaaVfsBytes
import Derived.Test.YtcfhhekklakacaaVfsRight
import Derived.Test.YtcfhhekklakacaaBaseD
import Derived.Deep.CutBlock
import Derived.Deep.CutRange
import Derived.Deep.DeepCutAuto
namespace Go.Proofs.Ytcfhhekklakacaa
open Go.RowKit Go.Maps
set_option linter.unusedVariables false
section
variable {P : Program} {o : Oper} {Q : Exit → Act → World → Prop} {a : Act} {w w' : World} {K : Act → World → Prop}
theorem wp_update (ty : TypeId) (s1 s2 s3 : Nat) (ho : o.op = .mapUpdate ty (.tmp s1) (.tmp s2) (.tmp s3)) {u1 u2 u3 : Value} (h1 : a.tmps[s1]? = some u1) (h2 : a.tmps[s2]? = some u2) (h3 : a.tmps[s3]? = some u3)
    (hr : (Instr.mapUpdate ty u1 u2 u3).run P w = .ok () w') (h : K (a.put o.dst undef) w') : o.wp P a w K Q := by
  unfold Oper.wp execOp
  simp only [ho, Sem.run_bind, evalT h1, evalT h2, evalT h3, hr, Result.andThen_ok, Sem.run_pure]
  exact h
theorem wp_delete (t k : TypeId) (s1 s2 : Nat) (ho : o.op = .call { callee := .builtin .delete, args := #[.tmp s1, .tmp s2], argTypes := #[t, k] }) {u1 u2 : Value} (h1 : a.tmps[s1]? = some u1) (h2 : a.tmps[s2]? = some u2)
    (hr : (Builtin.delete_ #[t, k] o.type #[u1, u2]).run P w = .ok (.tuple #[]) w') (h : K (a.put o.dst (.tuple #[])) w') : o.wp P a w K Q := by
  unfold Oper.wp execOp
  simp only [ho, resolve, invoke, builtin, Sem.run_bind, Sem.run_pure, Result.andThen_ok, List.map_toArray, List.map_cons, List.map_nil, evalT h1, evalT h2, hr]
  exact h
end
/-- the map is turned as the last of a region -/
def mapW (w0 : World) (mb n n2 : Nat) (M M2 : FM) : List Value → World → Prop
  | [], w => FMapAt w mb n M ∧ Keep (fun j => j = mb) w0 w
  | _ :: _, w => FMapAt w mb n2 M2 ∧ Keep (fun j => j = mb) w0 w
theorem mapW.grow {w0 : World} {mb n n2 : Nat} {M M2 : FM} : ∀ (vals : List Value) (x y : World), Grow x y → mapW w0 mb n n2 M M2 vals x → mapW w0 mb n n2 M M2 vals y
  | [], _, _, g, h => ⟨h.1.grow g, h.2.trans' (Keep.grow g)⟩
  | _ :: _, _, _, g, h => ⟨h.1.grow g, h.2.trans' (Keep.grow g)⟩
theorem FMapAt.ne {w : World} {mb n k ty : Nat} {M : FM} {cs : Array Value} (h : FMapAt w mb n M) (hb : Blk w k ty cs) : ¬ (k = mb) := fun e => by
  obtain ⟨es, clock, h1⟩ := h.obj
  rw [e] at hb
  rw [show w.heap[mb]? = _ from hb] at h1
  cases h1
/-- a pointer to a new block -/
def FactOn.newPt (B0 : Nat) (t : TypeId) (cs : Array Value) : FactOn (Keep (fun _ => False)) :=
  ⟨fun u w => ∃ m, u = .pointer (some ⟨m, 0, none⟩) ∧ B0 ≤ m ∧ Blk w m t cs, fun _ _ _ hk ⟨m, h1, h2, h3⟩ => ⟨m, h1, h2, hk.blk h3 (fun h => h)⟩⟩
set_option maxRecDepth 100000 in
set_option maxHeartbeats 2000000 in
theorem vCreate1_any (w : World) (g mb bd bn n : Nat) (name : ByteArray) (M : FM) {cs : Array Value} (hd : Blk w bd 25 #[pg g]) (hn : Blk w bn 9 #[.string name]) (hs : name.size ≤ maxLen) (hg : Blk w g 51 cs) (hc : cs[1]? = some (.map (some mb))) (hm : FMapAt w mb n M) :
    Calls Try.prog 24 #[pg bd, pg bn] w fun e w' => e = .returned (.tuple #[]) ∧ FMapAt w' mb n (putF M name.data.toList none) ∧ Keep (fun j => j = mb) w w' := by
  obtain ⟨wr, rfl⟩ : ∃ wr : World, wr = w := ⟨_, rfl⟩
  have Hd := Lib.hid (show ∀ W, Keep (fun j => j = mb) wr W → W.cell? ⟨bd, 0, none⟩ = some (pg g) from fun W h => (h.blk hd (hm.ne hd)).cell 0)
  have Hn := Lib.hid (show ∀ W, Keep (fun j => j = mb) wr W → W.cell? ⟨bn, 0, none⟩ = some (.string name) from fun W h => (h.blk hn (hm.ne hn)).cell 0)
  have Hm := Lib.hid (show ∀ W, Keep (fun j => j = mb) wr W → W.cell? ⟨g, 1, none⟩ = some (.map (some mb)) from fun W h => ((h.blk hg (hm.ne hg)).cell 1).trans hc)
  have Hm0 := Lib.hid (show FMapAt wr mb n M from hm)
  clear hd hn hm hg hc
  go_enter Try.func24, Try.ntmps24
  go_upto_region 0 with (fail)
  refine wp_region_stages (by kernel_rfl) ?_
  refine anyOrder_start [5] (Keep (fun j => j = mb)) (mapW wr mb n n M (putF M name.data.toList none)) (FactsOn [.is (.pointer (some ⟨g, 0, none⟩)), .is (.pointer (some ⟨g, 0, none⟩)), .is (.pointer (some ⟨g, 1, none⟩)), .is (.map (some mb)), .is (.string name), .any]) (fun i => 99) keep_trans keep_grow (mapW.grow) (factsOn_mono _) (by kernel_rfl) (by kernel_rfl) ⟨Hm0.out, Keep.refl _ _⟩ ?_ ?_
  · refine ⟨?_, ?_, ?_, ?_, ?_, ?_, trivial⟩
    · refine stageOf_free rfl (fun _ _ _ _ _ _ => wanted_none rfl) ?_
      intro us vals w3 a' ha hle hW hd hv K hK
      have q0 : a'.tmps[0]? = some (.pointer (some ⟨bd, 0, none⟩)) := slot_old ha (by kernel_rfl) (by kernel_rfl)
      have hc := Hd.out w3 hle
      refine step_value (v := .pointer (some ⟨g, 0, none⟩)) (w2 := w3) ?_ (hK _ _ (Grow.refl _) rfl)
      go_simp
    · refine stageOf_free rfl (fun _ _ _ _ _ _ => wanted_none rfl) ?_
      intro us vals w3 a' ha hle hW hd hv K hK
      obtain ⟨d0, _⟩ := hd
      have q2 : a'.tmps[2]? = some (us 0) := slot_get ha 0 (by kernel_rfl) (by kernel_rfl)
      rw [show us 0 = .pointer (some ⟨g, 0, none⟩) from d0] at q2
      refine step_value (v := .pointer (some ⟨g, 0, none⟩)) (w2 := w3) ?_ (hK _ _ (Grow.refl _) rfl)
      go_simp
    · refine stageOf_free rfl (fun _ _ _ _ _ _ => wanted_none rfl) ?_
      intro us vals w3 a' ha hle hW hd hv K hK
      obtain ⟨d1, _⟩ := hd
      have q3 : a'.tmps[3]? = some (us 1) := slot_get ha 1 (by kernel_rfl) (by kernel_rfl)
      rw [show us 1 = .pointer (some ⟨g, 0, none⟩) from d1] at q3
      refine step_value (v := .pointer (some ⟨g, 1, none⟩)) (w2 := w3) ?_ (hK _ _ (Grow.refl _) rfl)
      go_simp
    · refine stageOf_free rfl (fun _ _ _ _ _ _ => wanted_none rfl) ?_
      intro us vals w3 a' ha hle hW hd hv K hK
      obtain ⟨d2, _⟩ := hd
      have q4 : a'.tmps[4]? = some (us 2) := slot_get ha 2 (by kernel_rfl) (by kernel_rfl)
      rw [show us 2 = .pointer (some ⟨g, 1, none⟩) from d2] at q4
      have hc := Hm.out w3 hle
      refine step_value (v := .map (some mb)) (w2 := w3) ?_ (hK _ _ (Grow.refl _) rfl)
      go_simp
    · refine stageOf_free rfl (fun _ _ _ _ _ _ => wanted_none rfl) ?_
      intro us vals w3 a' ha hle hW hd hv K hK
      have q1 : a'.tmps[1]? = some (.pointer (some ⟨bn, 0, none⟩)) := slot_old ha (by kernel_rfl) (by kernel_rfl)
      have hc := Hn.out w3 hle
      refine step_value (v := .string name) (w2 := w3) ?_ (hK _ _ (Grow.refl _) rfl)
      go_simp
    · refine stageOf_mem (t := 0) rfl ?_
      intro us vals w3 a' ha hle hW hd hv
      obtain ⟨d3, d4, _⟩ := hd
      obtain rfl := List.eq_nil_of_length_eq_zero (Nat.le_zero.1 (show vals.length ≤ 0 from Nat.le_of_eq hv))
      refine ⟨wanted_none rfl, fun K hK => ?_⟩
      have q5 : a'.tmps[5]? = some (us 3) := slot_get ha 3 (by kernel_rfl) (by kernel_rfl)
      rw [show us 3 = .map (some mb) from d3] at q5
      have q6 : a'.tmps[6]? = some (us 4) := slot_get ha 4 (by kernel_rfl) (by kernel_rfl)
      rw [show us 4 = .string name from d4] at q6
      obtain ⟨w6, hrun, hm6, hk6⟩ := hW.1.del name (by assumption) 0
      exact wp_delete 46 9 5 6 rfl q5 q6 hrun (hK _ _ hk6 ⟨hm6, hW.2.trans' hk6⟩)
  · intro us vals w5 hle hvl hW ht hf
    obtain ⟨v, rfl⟩ := List.length_eq_one_iff.1 hvl
    refine Go.Great.bodyPost_end0 rfl rfl ?_
    exact ⟨rfl, hW.1, hW.2⟩
/-- a new file is made and laid into the map -/
def newW (w0 : World) (mb n : Nat) (M : FM) (l : List UInt8) : List Value → World → Prop
  | [], w => FMapAt w mb n M ∧ Keep (fun j => j = mb) w0 w
  | [v], w => ∃ m : Nat, v = .pointer (some ⟨m, 0, none⟩) ∧ w0.heap.size ≤ m ∧ Blk w m 58 #[.slice none 0 0, .int .i64 0, .bool false] ∧ FMapAt w mb n M ∧ Keep (fun j => j = mb) w0 w
  | [_, _], w => ∃ m : Nat, w0.heap.size ≤ m ∧ Blk w m 58 #[.slice none 0 0, .int .i64 0, .bool false] ∧ FMapAt w mb (n + 1) (putF M l (some m)) ∧ Keep (fun j => j = mb) w0 w
  | _, _ => False
theorem newW.grow {w0 : World} {mb n : Nat} {M : FM} {l : List UInt8} : ∀ (vals : List Value) (x y : World), Grow x y → newW w0 mb n M l vals x → newW w0 mb n M l vals y
  | [], _, _, g, h => ⟨h.1.grow g, h.2.trans' (Keep.grow g)⟩
  | [_], _, _, g, ⟨m, h1, h2, h3, h4, h5⟩ => ⟨m, h1, h2, h3.below g h3.lt, h4.grow g, h5.trans' (Keep.grow g)⟩
  | [_, _], _, _, g, ⟨m, h2, h3, h4, h5⟩ => ⟨m, h2, h3.below g h3.lt, h4.grow g, h5.trans' (Keep.grow g)⟩
  | _ :: _ :: _ :: _, _, _, _, h => h
/-- one more file, that has no name yet -/
def St.file (S : St) (id : Nat) : St := { S with ids := id :: S.ids, con := fun x => if x = id then ([], 0) else S.con x }
def St.more (S : St) : St := { S with n := S.n + 1 }
def St.create (S : St) (l : List UInt8) (id : Nat) : St := ((S.file id).more).wait (putF S.cur l (some id))
section
variable {w w' : World} {g base : Nat} {room : Int} {S : St} {M : FM} {mb : Nat} {uv : Value} {fs : List Value} {t c : Int} {rv : Nat → Value} {id : Nat}
theorem VX.file' (h : VX w g base room S M mb uv fs t c rv) (hid : id ∉ S.ids) (hb : base ≤ id) (hf : Blk w id 58 #[.slice none 0 0, .int .i64 0, .bool false]) : VX w g base room (S.file id) M mb uv fs t c (fun x => if x = id then .slice none 0 0 else rv x) := by
  have hne : ∀ x ∈ S.ids, x ≠ id := fun x hx e => hid (e ▸ hx)
  refine ⟨h.disk, h.ge, h.mge, h.map, h.undo, h.many, h.back, fun x hx => ?_, fun x hx => ?_, fun x hx y hy hxy b hb => ?_⟩
  · rcases List.mem_cons.1 hx with rfl | hx
    · exact ⟨hb, false, by simpa [St.file] using hf⟩
    · obtain ⟨h1, d, h2⟩ := h.file x hx
      exact ⟨h1, d, by simpa [St.file, hne x hx] using h2⟩
  · rcases List.mem_cons.1 hx with rfl | hx
    · simpa [St.file] using World.ownsRow_nil w base 5 1
    · simpa [St.file, hne x hx] using h.row x hx
  · rcases List.mem_cons.1 hx with rfl | hx
    · simp at hb
      cases hb
    · rcases List.mem_cons.1 hy with rfl | hy
      · intro e
        simp at e
        cases e
      · simp only [hne x hx, hne y hy, if_false] at hb ⊢
        exact h.apart x hx y hy hxy b hb
end
theorem putF_back {M : FM} {l : List UInt8} (v : Option Nat) (h : M l = none) : putF (putF M l v) l none = M := by
  funext x
  by_cases e : x = l
  · subst e
    rw [putF_self, h]
  · rw [putF_ne _ _ e, putF_ne _ _ e]
theorem Wf.create {S : St} (h : Wf S) {l : List UInt8} {id : Nat} (hid : id ∉ S.ids) (hl : S.cur l = none) : Wf (S.create l id) := by
  have hall : (S.create l id).all = S.all ++ [putF S.cur l (some id)] := by simp [St.create, St.wait, St.all, St.more, St.file]
  have hcur : S.cur ∈ S.all := by simp [St.all]
  refine ⟨List.nodup_cons.2 ⟨hid, h.nodup⟩, fun x hx => ?_, fun M hM x i hi => ?_, fun M hM x y i hx hy => ?_, h.armed, h.full, fun x hx => ?_⟩
  · rcases List.mem_cons.1 hx with rfl | hx
    · simp [St.create, St.wait, St.more, St.file]
    · have := h.safe x hx
      have hne : x ≠ id := fun e => hid (e ▸ hx)
      simpa [St.create, St.wait, St.more, St.file, hne] using this
  · rw [hall] at hM
    rcases List.mem_append.1 hM with hM | hM
    · exact List.mem_cons_of_mem _ (h.refs M hM x i hi)
    · obtain rfl : M = putF S.cur l (some id) := by simpa using hM
      by_cases e : x = l
      · subst e
        rw [putF_self] at hi
        injection hi with hi
        subst hi
        exact List.mem_cons_self
      · rw [putF_ne _ _ e] at hi
        exact List.mem_cons_of_mem _ (h.refs _ hcur x i hi)
  · rw [hall] at hM
    rcases List.mem_append.1 hM with hM | hM
    · exact h.inj M hM x y i hx hy
    · obtain rfl : M = putF S.cur l (some id) := by simpa using hM
      by_cases e : x = l
      · by_cases e2 : y = l
        · rw [e, e2]
        · rw [e, putF_self] at hx
          rw [putF_ne _ _ e2] at hy
          injection hx with hx
          subst hx
          exact absurd (h.refs _ hcur y _ hy) hid
      · rw [putF_ne _ _ e] at hx
        by_cases e2 : y = l
        · rw [e2, putF_self] at hy
          injection hy with hy
          subst hy
          exact absurd (h.refs _ hcur x _ hx) hid
        · rw [putF_ne _ _ e2] at hy
          exact h.inj _ hcur x y i hx hy
  · rcases List.mem_cons.1 hx with rfl | hx
    · simp [St.create, St.wait, St.more, St.file]
    · have := h.lens x hx
      have hne : x ≠ id := fun e => hid (e ▸ hx)
      simpa [St.create, St.wait, St.more, St.file, hne] using this
theorem own_ge {w : World} {base e size n k : Nat} {v : Value} {xs : List Value} (h : w.ownsRow base e size v n xs) (hk : v.ownBlock = some k) : base ≤ k := by
  rcases h.2 with ⟨rfl, _⟩ | ⟨g, cap, cur, rfl, hg, _⟩
  · simp [Value.ownBlock] at hk
  · simp [Value.ownBlock] at hk
    omega
/-- what Create makes of a disk -/
def CreateTo (base g : Nat) (room : Int) (S : St) (name : ByteArray) (w : World) (e : Ending) (w' : World) : Prop :=
  Below base w w' ∧ ((turnE S ≠ 0 ∧ e = .returned (.int .i64 (turnE S)) ∧ VAt w' g base room (turnS S)) ∨
    (turnE S = 0 ∧ rightB name = false ∧ e = .returned (.int .i64 2) ∧ VAt w' g base room (turnS S)) ∨
    (turnE S = 0 ∧ rightB name = true ∧ (∃ id, S.cur name.data.toList = some id) ∧ e = .returned (.int .i64 11) ∧ VAt w' g base room (turnS S)) ∨
    (turnE S = 0 ∧ rightB name = true ∧ S.cur name.data.toList = none ∧ e = .returned (.int .i64 0) ∧ ∃ id, id ∉ S.ids ∧ VAt w' g base room ((turnS S).create name.data.toList id)))
set_option maxRecDepth 100000 in
set_option maxHeartbeats 4000000 in
theorem vCreate_any (w : World) (g base : Nat) (room : Int) (S : St) (h : VAt w g base room S) (hb : base ≤ w.heap.size) (name : ByteArray) (hs : name.size ≤ 281474976710656) (hm : S.maps.length ≤ 1000000) (hn : S.n < maxLen) :
    Calls Try.prog 7 #[pg g, .string name] w (CreateTo base g room S name w) := by
  obtain ⟨hw, mb, uv, fs, t, c, rv, hx⟩ := h
  have hname : name.size ≤ maxLen := by unfold maxLen; omega
  obtain ⟨w2, hw2⟩ : ∃ w2, (w.alloc (.cells #[pg g] 25)).alloc (.cells #[.string name] 9) = w2 := ⟨_, rfl⟩
  have hg2 : Grow w w2 := by rw [← hw2]; exact (Grow.alloc _ _).trans (Grow.alloc _ _)
  have hbd : Blk w2 w.heap.size 25 #[pg g] := by rw [← hw2]; exact (Blk.new _ _ _).alloc _
  have hbn : Blk w2 (w.heap.size + 1) 9 #[.string name] := by
    rw [← hw2]
    have h := Blk.new (w.alloc (.cells #[pg g] 25)) 9 #[.string name]
    simpa using h
  have hx2 := hx.grow hg2
  have Hturn := Lib.hid (vturn_any hx2 hw.armed)
  have hdg : ¬ (w.heap.size = g) := fun e => by
    have := hx.disk.lt
    omega
  have hng : ¬ (w.heap.size + 1 = g) := fun e => by
    have := hx.disk.lt
    omega
  have hb2 : base ≤ w2.heap.size := Nat.le_trans hb hg2.size
  have hge := hx.ge
  have hcd := hbd.cell 0
  have hcn := hbn.cell 0
  have Hbel2 := Lib.hid (show Below base w w2 from Below.mono hg2 hb)
  have Hbd := Lib.hid hbd
  have Hbn := Lib.hid hbn
  have Hw := Lib.hid hw
  have Hge := Lib.hid hge
  clear hx hx2 hg2 hbd hbn hw hge
  go_enter Try.func7, Try.ntmps7
  go_upto_region 1 with (fail)
  (try rw [hw2])
  clear hw2
  go_wp2_with fail
  refine Hturn.out.mono ?_
  rintro e w3 ⟨rfl, ⟨t3, c3, hx3⟩, hk3⟩
  have hbd3 := hk3.blk Hbd.out hdg
  have hbn3 := hk3.blk Hbn.out hng
  have Hbel3 := Lib.hid (Below.trans Hbel2.out (hk3.below (fun j hj => by rw [hj]; exact Hge.out) hb2))
  have hb3 : base ≤ w3.heap.size := Nat.le_trans hb2 hk3.size
  rw [← turnS_cur S] at hx3
  have Hx3 := Lib.hid hx3
  have Hwt := Lib.hid Hw.out.turn
  have hcn3 := hbn3.cell 0
  have hcd3 := hbd3.cell 0
  have Hbd3 := Lib.hid hbd3
  have Hbn3 := Lib.hid hbn3
  clear hx3 hk3 Hturn Hbd Hbn Hbel2 hcd hcn Hw hbd3 hbn3
  by_cases ht : turnE S = 0
  · have Ht := Lib.hid ht
    rw [ht]
    clear ht
    go_wp2_with fail
    refine (vright_any w3 name hs).mono ?_
    rintro e w4 ⟨rfl, hg4⟩
    have Hx4 := Lib.hid (Hx3.out.grow hg4)
    have Hbel4 := Lib.hid (Below.trans Hbel3.out (Below.mono hg4 hb3))
    have hb4 : base ≤ w4.heap.size := Nat.le_trans hb3 hg4.size
    have hbd4 := Hbd3.out.below hg4 Hbd3.out.lt
    have hbn4 := Hbn3.out.below hg4 Hbn3.out.lt
    clear Hx3 Hbel3 hb3 Hbd3 Hbn3 hcn3 hcd3 hg4
    cases hr : rightB name with
    | false =>
      have Hr := Lib.hid hr
      clear hr hbd4 hbn4
      go_wp2_with fail
      go_ret
      exact ⟨Hbel4.out, Or.inr (Or.inl ⟨Ht.out, Hr.out, rfl, Hwt.out, mb, uv, fs, t3, c3, rv, Hx4.out⟩)⟩
    | true =>
      have Hr := Lib.hid hr
      have Hbd4 := Lib.hid hbd4
      have Hbn4 := Lib.hid hbn4
      have Hd := Lib.hid (show ∀ W, Grow w4 W → W.cell? ⟨w.heap.size, 0, none⟩ = some (pg g) from fun W h => (Hbd4.out.below h Hbd4.out.lt).cell 0)
      have Hn := Lib.hid (show ∀ W, Grow w4 W → W.cell? ⟨w.heap.size + 1, 0, none⟩ = some (.string name) from fun W h => (Hbn4.out.below h Hbn4.out.lt).cell 0)
      have Hm := Lib.hid (show ∀ W, Grow w4 W → W.cell? ⟨g, 1, none⟩ = some (.map (some mb)) from fun W h => (Hx4.out.disk.below h Hx4.out.disk.lt).cell 1)
      obtain ⟨lv, hlv⟩ : ∃ lv : Value, lv = .pointer (((turnS S).cur name.data.toList).map fun id => ⟨id, 0, none⟩) := ⟨_, rfl⟩
      obtain ⟨lb, hlb⟩ : ∃ lb : Bool, lb = ((turnS S).cur name.data.toList).isSome := ⟨_, rfl⟩
      have Hlk := Lib.hid (show ∀ W, Grow w4 W → (Instr.lookup 46 (.map (some mb)) (.string name) true).run Try.prog W = .ok (.tuple #[lv, .bool lb]) W from fun W h => by
        rw [hlv, hlb]
        exact (Hx4.out.map.grow h).look name hname)
      have Hlb := Lib.hid hlb
      clear hr hbd4 hbn4 hlv hlb
      go_wp2_with fail
      go_cut [6, 7] from 16 to 24 (fun v6 v7 wx => ∃ W : World, W = wx ∧ v6 = lv ∧ v7 = .bool lb ∧ Grow w4 W)
      case first Jx Kx hJx hMx =>
        refine wp_region_stages (by kernel_rfl) ?_
        refine anyOrder_start [] (Keep (fun _ => False)) ((fun _ w => Grow w4 w)) (FactsOn [.is (.pointer (some ⟨g, 0, none⟩)), .is (.pointer (some ⟨g, 0, none⟩)), .is (.pointer (some ⟨g, 1, none⟩)), .is (.map (some mb)), .is (.string name), .is (.tuple #[lv, .bool lb]), .is (.tuple #[lv, .bool lb]), .is (lv), .is (.bool lb), .is (lv), .is (.bool lb)]) (fun i => 99) keep_trans keep_grow (fun _ _ _ hg h => Grow.trans h hg) (factsOn_mono _) (by kernel_rfl) (by kernel_rfl) (Grow.refl _) ?_ ?_
        · refine ⟨?_, ?_, ?_, ?_, ?_, ?_, ?_, ?_, ?_, ?_, ?_, trivial⟩
          · refine stageOf_free rfl (fun _ _ _ _ _ _ => wanted_none rfl) ?_
            intro us vals w3 a' ha hle hW hd hv K hK
            have q2 : a'.tmps[2]? = some (.pointer (some ⟨w.heap.size, 0, none⟩)) := slot_old ha (by kernel_rfl) (by kernel_rfl)
            have hc := Hd.out w3 hW
            refine step_value (v := .pointer (some ⟨g, 0, none⟩)) (w2 := w3) ?_ (hK _ _ (Grow.refl _) rfl)
            go_simp
          · refine stageOf_free rfl (fun _ _ _ _ _ _ => wanted_none rfl) ?_
            intro us vals w3 a' ha hle hW hd hv K hK
            obtain ⟨d0, _⟩ := hd
            have q17 : a'.tmps[17]? = some (us 0) := slot_get ha 0 (by kernel_rfl) (by kernel_rfl)
            rw [show us 0 = .pointer (some ⟨g, 0, none⟩) from d0] at q17
            refine step_value (v := .pointer (some ⟨g, 0, none⟩)) (w2 := w3) ?_ (hK _ _ (Grow.refl _) rfl)
            go_simp
          · refine stageOf_free rfl (fun _ _ _ _ _ _ => wanted_none rfl) ?_
            intro us vals w3 a' ha hle hW hd hv K hK
            obtain ⟨d1, _⟩ := hd
            have q18 : a'.tmps[18]? = some (us 1) := slot_get ha 1 (by kernel_rfl) (by kernel_rfl)
            rw [show us 1 = .pointer (some ⟨g, 0, none⟩) from d1] at q18
            refine step_value (v := .pointer (some ⟨g, 1, none⟩)) (w2 := w3) ?_ (hK _ _ (Grow.refl _) rfl)
            go_simp
          · refine stageOf_free rfl (fun _ _ _ _ _ _ => wanted_none rfl) ?_
            intro us vals w3 a' ha hle hW hd hv K hK
            obtain ⟨d2, _⟩ := hd
            have q19 : a'.tmps[19]? = some (us 2) := slot_get ha 2 (by kernel_rfl) (by kernel_rfl)
            rw [show us 2 = .pointer (some ⟨g, 1, none⟩) from d2] at q19
            have hc := Hm.out w3 hW
            refine step_value (v := .map (some mb)) (w2 := w3) ?_ (hK _ _ (Grow.refl _) rfl)
            go_simp
          · refine stageOf_free rfl (fun _ _ _ _ _ _ => wanted_none rfl) ?_
            intro us vals w3 a' ha hle hW hd hv K hK
            have q3 : a'.tmps[3]? = some (.pointer (some ⟨w.heap.size + 1, 0, none⟩)) := slot_old ha (by kernel_rfl) (by kernel_rfl)
            have hc := Hn.out w3 hW
            refine step_value (v := .string name) (w2 := w3) ?_ (hK _ _ (Grow.refl _) rfl)
            go_simp
          · refine stageOf_free rfl (fun _ _ _ _ _ _ => wanted_none rfl) ?_
            intro us vals w3 a' ha hle hW hd hv K hK
            obtain ⟨d3, d4, _⟩ := hd
            have q20 : a'.tmps[20]? = some (us 3) := slot_get ha 3 (by kernel_rfl) (by kernel_rfl)
            rw [show us 3 = .map (some mb) from d3] at q20
            have q21 : a'.tmps[21]? = some (us 4) := slot_get ha 4 (by kernel_rfl) (by kernel_rfl)
            rw [show us 4 = .string name from d4] at q21
            refine step_value (v := .tuple #[lv, .bool lb]) (w2 := w3) ?_ (hK _ _ (Grow.refl _) rfl)
            have hl := Hlk.out w3 hW
            go_simp
          · refine stageOf_free rfl (fun _ _ _ _ _ _ => wanted_none rfl) ?_
            intro us vals w3 a' ha hle hW hd hv K hK
            obtain ⟨d5, _⟩ := hd
            have q22 : a'.tmps[22]? = some (us 5) := slot_get ha 5 (by kernel_rfl) (by kernel_rfl)
            rw [show us 5 = .tuple #[lv, .bool lb] from d5] at q22
            exact step_value (w2 := w3) (by go_simp) (hK _ _ (Grow.refl _) rfl)
          · refine stageOf_free rfl (fun _ _ _ _ _ _ => wanted_none rfl) ?_
            intro us vals w3 a' ha hle hW hd hv K hK
            obtain ⟨d6, _⟩ := hd
            have q16 : a'.tmps[16]? = some (us 6) := slot_get ha 6 (by kernel_rfl) (by kernel_rfl)
            rw [show us 6 = .tuple #[lv, .bool lb] from d6] at q16
            refine step_value (v := lv) (w2 := w3) ?_ (hK _ _ (Grow.refl _) rfl)
            go_simp
          · refine stageOf_free rfl (fun _ _ _ _ _ _ => wanted_none rfl) ?_
            intro us vals w3 a' ha hle hW hd hv K hK
            obtain ⟨d6, _⟩ := hd
            have q16 : a'.tmps[16]? = some (us 6) := slot_get ha 6 (by kernel_rfl) (by kernel_rfl)
            rw [show us 6 = .tuple #[lv, .bool lb] from d6] at q16
            refine step_value (v := .bool lb) (w2 := w3) ?_ (hK _ _ (Grow.refl _) rfl)
            go_simp
          · refine stageOf_free rfl (fun _ _ _ _ _ _ => wanted_none rfl) ?_
            intro us vals w3 a' ha hle hW hd hv K hK
            obtain ⟨d7, _, _, _, _, _, _, _, _, _⟩ := hd
            have q23 : a'.tmps[23]? = some (us 7) := slot_get ha 7 (by kernel_rfl) (by kernel_rfl)
            rw [show us 7 = lv from d7] at q23
            exact step_value (w2 := w3) (by go_simp) (hK _ _ (Grow.refl _) rfl)
          · refine stageOf_free rfl (fun _ _ _ _ _ _ => wanted_none rfl) ?_
            intro us vals w3 a' ha hle hW hd hv K hK
            obtain ⟨d8, _, _, _, _, _, _, _, _, _, _, _, _⟩ := hd
            have q24 : a'.tmps[24]? = some (us 8) := slot_get ha 8 (by kernel_rfl) (by kernel_rfl)
            rw [show us 8 = .bool lb from d8] at q24
            exact step_value (w2 := w3) (by go_simp) (hK _ _ (Grow.refl _) rfl)
        · intro us vals w5 hle hvl hW ht hf
          exact hMx _ _ (Met.intro (hJx _ _ ⟨us 9, us 10, us 6, us 0, us 1, us 2, us 3, us 4, us 5, us 7, us 8, ⟨_, rfl, hf 9 (by decide) rfl, hf 10 (by decide) rfl, hW⟩, by kernel_rfl⟩))
      case rest =>
      obtain ⟨w5, rfl, rfl, rfl, hgq⟩ := hcut
      clear Hd Hn Hm Hlk
      cases hM : (turnS S).cur name.data.toList with
      | some id =>
        rw [hM] at Hlb
        have HM := Lib.hid hM
        obtain rfl : lb = true := Hlb.out
        clear hM
        go_wp2_with fail
        go_ret
        exact ⟨Below.trans Hbel4.out (Below.mono hgq hb4), Or.inr (Or.inr (Or.inl ⟨Ht.out, Hr.out, ⟨id, by rw [← turnS_cur]; exact HM.out⟩, rfl, Hwt.out, mb, uv, fs, t3, c3, rv, Hx4.out.grow hgq⟩))⟩
      | none =>
        rw [hM] at Hlb
        obtain rfl : lb = false := Hlb.out
        have HM := Lib.hid hM
        clear Hlb hM
        have Hx5 := Lib.hid (Hx4.out.grow hgq)
        have Hbel5 := Lib.hid (Below.trans Hbel4.out (Below.mono hgq hb4))
        have hb5 : base ≤ w5.heap.size := Nat.le_trans hb4 hgq.size
        have hbd5 := Hbd4.out.below hgq Hbd4.out.lt
        have hbn5 := Hbn4.out.below hgq Hbn4.out.lt
        have Hd := Lib.hid (show ∀ W, Keep (fun j => j = mb) w5 W → W.cell? ⟨w.heap.size, 0, none⟩ = some (pg g) from fun W h => (h.blk hbd5 (Hx5.out.map.ne hbd5)).cell 0)
        have Hn := Lib.hid (show ∀ W, Keep (fun j => j = mb) w5 W → W.cell? ⟨w.heap.size + 1, 0, none⟩ = some (.string name) from fun W h => (h.blk hbn5 (Hx5.out.map.ne hbn5)).cell 0)
        have Hm := Lib.hid (show ∀ W, Keep (fun j => j = mb) w5 W → W.cell? ⟨g, 1, none⟩ = some (.map (some mb)) from fun W h => (h.blk Hx5.out.disk (Hx5.out.map.ne Hx5.out.disk)).cell 1)
        have Hm0 := Lib.hid Hx5.out.map
        have hnm : (turnS S).n < maxLen := by rw [turnS_n]; exact hn
        have Hbd5 := Lib.hid hbd5
        have Hbn5 := Lib.hid hbn5
        clear Hx4 Hbel4 hb4 Hbd4 Hbn4 hbd5 hbn5 hgq
        go_wp2_with fail
        go_cut [] from 26 to 32 (fun wx => ∃ (W : World) (m : Nat), W = wx ∧ w5.heap.size ≤ m ∧ Blk W m 58 #[.slice none 0 0, .int .i64 0, .bool false] ∧ FMapAt W mb ((turnS S).n + 1) (putF (turnS S).cur name.data.toList (some m)) ∧ Keep (fun j => j = mb) w5 W)
        case first Jx Kx hJx hMx =>
          refine wp_region_stages (by kernel_rfl) ?_
          refine anyOrder_start [6, 7] (Keep (fun j => j = mb)) (newW w5 mb (turnS S).n (turnS S).cur name.data.toList) (FactsOn [.is (.pointer (some ⟨g, 0, none⟩)), .is (.pointer (some ⟨g, 0, none⟩)), .is (.pointer (some ⟨g, 1, none⟩)), .is (.map (some mb)), .is (.string name), .is (.agg #[.slice none 0 0, .int .i64 0, .bool false]), .any, .any]) (fun i => 99) keep_trans keep_grow (newW.grow) (factsOn_mono _) (by kernel_rfl) (by kernel_rfl) ⟨Hm0.out, Keep.refl _ _⟩ ?_ ?_
          · refine ⟨?_, ?_, ?_, ?_, ?_, ?_, ?_, ?_, trivial⟩
            · refine stageOf_free rfl (fun _ _ _ _ _ _ => wanted_none rfl) ?_
              intro us vals w3 a' ha hle hW hd hv K hK
              have q2 : a'.tmps[2]? = some (.pointer (some ⟨w.heap.size, 0, none⟩)) := slot_old ha (by kernel_rfl) (by kernel_rfl)
              have hc := Hd.out w3 hle
              refine step_value (v := .pointer (some ⟨g, 0, none⟩)) (w2 := w3) ?_ (hK _ _ (Grow.refl _) rfl)
              go_simp
            · refine stageOf_free rfl (fun _ _ _ _ _ _ => wanted_none rfl) ?_
              intro us vals w3 a' ha hle hW hd hv K hK
              obtain ⟨d0, _⟩ := hd
              have q26 : a'.tmps[26]? = some (us 0) := slot_get ha 0 (by kernel_rfl) (by kernel_rfl)
              rw [show us 0 = .pointer (some ⟨g, 0, none⟩) from d0] at q26
              refine step_value (v := .pointer (some ⟨g, 0, none⟩)) (w2 := w3) ?_ (hK _ _ (Grow.refl _) rfl)
              go_simp
            · refine stageOf_free rfl (fun _ _ _ _ _ _ => wanted_none rfl) ?_
              intro us vals w3 a' ha hle hW hd hv K hK
              obtain ⟨d1, _⟩ := hd
              have q27 : a'.tmps[27]? = some (us 1) := slot_get ha 1 (by kernel_rfl) (by kernel_rfl)
              rw [show us 1 = .pointer (some ⟨g, 0, none⟩) from d1] at q27
              refine step_value (v := .pointer (some ⟨g, 1, none⟩)) (w2 := w3) ?_ (hK _ _ (Grow.refl _) rfl)
              go_simp
            · refine stageOf_free rfl (fun _ _ _ _ _ _ => wanted_none rfl) ?_
              intro us vals w3 a' ha hle hW hd hv K hK
              obtain ⟨d2, _⟩ := hd
              have q28 : a'.tmps[28]? = some (us 2) := slot_get ha 2 (by kernel_rfl) (by kernel_rfl)
              rw [show us 2 = .pointer (some ⟨g, 1, none⟩) from d2] at q28
              have hc := Hm.out w3 hle
              refine step_value (v := .map (some mb)) (w2 := w3) ?_ (hK _ _ (Grow.refl _) rfl)
              go_simp
            · refine stageOf_free rfl (fun _ _ _ _ _ _ => wanted_none rfl) ?_
              intro us vals w3 a' ha hle hW hd hv K hK
              have q3 : a'.tmps[3]? = some (.pointer (some ⟨w.heap.size + 1, 0, none⟩)) := slot_old ha (by kernel_rfl) (by kernel_rfl)
              have hc := Hn.out w3 hle
              refine step_value (v := .string name) (w2 := w3) ?_ (hK _ _ (Grow.refl _) rfl)
              go_simp
            · refine stageOf_free rfl (fun _ _ _ _ _ _ => wanted_none rfl) ?_
              intro us vals w3 a' ha hle hW hd hv K hK
              refine step_value (v := .agg #[.slice none 0 0, .int .i64 0, .bool false]) (w2 := w3) ?_ (hK _ _ (Grow.refl _) rfl)
              go_simp
            · refine stageOf_mem (t := 0) rfl ?_
              intro us vals w3 a' ha hle hW hd hv
              obtain ⟨d5, _⟩ := hd
              obtain rfl := List.eq_nil_of_length_eq_zero (Nat.le_zero.1 (show vals.length ≤ 0 from Nat.le_of_eq hv))
              refine ⟨wanted_none rfl, fun K hK => ?_⟩
              have q31 : a'.tmps[31]? = some (us 5) := slot_get ha 5 (by kernel_rfl) (by kernel_rfl)
              rw [show us 5 = .agg #[.slice none 0 0, .int .i64 0, .bool false] from d5] at q31
              refine step_value (v := .pointer (some ⟨w3.heap.size, 0, none⟩)) (w2 := w3.alloc (.cells #[.slice none 0 0, .int .i64 0, .bool false] 58)) (by go_simp) (hK _ _ (Keep.alloc w3 _) ⟨w3.heap.size, rfl, hW.2.size, Blk.new _ _ _, hW.1.grow (Grow.alloc _ _), hW.2.trans' (Keep.alloc w3 _)⟩)
            · refine stageOf_mem (t := 1) rfl ?_
              intro us vals w3 a' ha hle hW hd hv
              obtain ⟨d3, d4, d6, _, _, _, _, _, _, _, _⟩ := hd
              obtain ⟨x0, rfl⟩ := List.length_eq_one_iff.1 hv
              obtain rfl : us 6 = x0 := by have h0 : some x0 = some (us 6) := d6; injection h0 with h0; exact h0.symm
              refine ⟨wanted_none rfl, fun K hK => ?_⟩
              have q29 : a'.tmps[29]? = some (us 3) := slot_get ha 3 (by kernel_rfl) (by kernel_rfl)
              rw [show us 3 = .map (some mb) from d3] at q29
              have q30 : a'.tmps[30]? = some (us 4) := slot_get ha 4 (by kernel_rfl) (by kernel_rfl)
              rw [show us 4 = .string name from d4] at q30
              have q32 : a'.tmps[32]? = some (us 6) := slot_get ha 6 (by kernel_rfl) (by kernel_rfl)
              obtain ⟨m, hm1, hm2, hm3, hm4, hm5⟩ := hW
              rw [hm1] at q32
              obtain ⟨w6, hrun, hm6, hk6⟩ := hm4.put name (by assumption) hnm m
              exact wp_update 46 29 30 32 rfl q29 q30 q32 hrun (hK _ _ hk6 ⟨m, hm2, hk6.blk hm3 (hm4.ne hm3), hm6, hm5.trans' hk6⟩)
          · intro us vals w6 hle hvl hW ht hf
            obtain ⟨x, y, rfl⟩ : ∃ x y, vals = [x, y] := by
              match vals, hvl with
              | [x, y], _ => exact ⟨x, y, rfl⟩
            obtain ⟨m, h1, h2, h3, h4⟩ := hW
            exact hMx _ _ (Met.intro (hJx _ _ ⟨us 0, us 1, us 2, us 3, us 4, us 5, us 6, ⟨_, m, rfl, h1, h2, h3, h4⟩, by kernel_rfl⟩))
        case rest =>
        obtain ⟨w6, m, rfl, hm1, hm2, hm3, hk6⟩ := hcut
        have hid : m ∉ (turnS S).ids := fun hi => by
          obtain ⟨-, d, hf⟩ := Hx5.out.file m hi
          have := hf.lt
          omega
        have hx6 : VX w6 g base room ((turnS S).more.file m) (putF (turnS S).cur name.data.toList (some m)) mb uv fs t3 c3 (fun x => if x = m then .slice none 0 0 else rv x) := (Hx5.out.turned (S' := (turnS S).more) hk6 hm3 rfl rfl rfl rfl rfl rfl rfl).file' hid (Nat.le_trans hb5 hm1) hm2
        have hU : UOk w6 g (.func (.func 24) #[] #[pg w.heap.size, pg (w.heap.size + 1)]) (putF (turnS S).cur name.data.toList (some m)) ((turnS S).more.file m).cur := by
          have h := UOk.create (w := w6) (g := g) (name := name) (M := putF (turnS S).cur name.data.toList (some m)) (hk6.blk Hbd5.out (Hx5.out.map.ne Hbd5.out)) (hk6.blk Hbn5.out (Hx5.out.map.ne Hbn5.out)) hname
          rw [putF_back _ HM.out] at h
          exact h
        have hb6 : base ≤ w6.heap.size := Nat.le_trans hb5 hk6.size
        have Hbel6 := Lib.hid (Below.trans Hbel5.out (hk6.below (fun j hj => by rw [hj]; exact Hx5.out.mge) hb5))
        have Hge6 := Lib.hid (show ∀ j, (j = g ∨ uv.ownBlock = some j) → base ≤ j from fun j hj => by
          rcases hj with rfl | hj
          · exact hx6.ge
          · exact own_ge hx6.undo hj)
        have Hwaits := Lib.hid (vwaits_any w6 g base room _ _ mb uv fs t3 c3 _ hx6 _ _ _ hU (by show (turnS S).maps.length ≤ 1000000; rw [turnS_maps]; exact hm) hb6)
        have Hwc := Lib.hid (Hwt.out.create hid HM.out)
        have Hid := Lib.hid (show m ∉ S.ids from by rw [← turnS_ids]; exact hid)
        have HM0 := Lib.hid (show S.cur name.data.toList = none from by rw [← turnS_cur]; exact HM.out)
        have hcd6 := (hk6.blk Hbd5.out (Hx5.out.map.ne Hbd5.out)).cell 0
        clear Hd Hn Hm Hm0 hx6 hU hid hk6 hm3 hm2 hm1
        go_wp2_with fail
        refine Hwaits.out.mono ?_
        rintro e w7 ⟨rfl, ⟨uv', hx7⟩, hk7⟩
        have Hx7 := Lib.hid hx7
        have Hbel7 := Lib.hid (Below.trans Hbel6.out (hk7.below Hge6.out hb6))
        clear hx7 hk7
        go_wp2_with fail
        go_ret
        exact ⟨Hbel7.out, Or.inr (Or.inr (Or.inr ⟨Ht.out, Hr.out, HM0.out, rfl, m, Hid.out, Hwc.out, mb, uv', _, t3, c3, _, Hx7.out⟩))⟩
  · go_wp2_with fail
    go_ret
    exact ⟨Hbel3.out, Or.inl ⟨ht, rfl, Hwt.out, mb, uv, fs, t3, c3, rv, Hx3.out⟩⟩
end Go.Proofs.Ytcfhhekklakacaa
