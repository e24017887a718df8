/-
  A file that turns; the walks of a disk's Sync.
-/
import Derived.Test.YtcfhhekklakacaaVfsOn
namespace Go.Proofs.Ytcfhhekklakacaa
open Go.RowKit
set_option linter.unusedVariables false
theorem own_lt {w : World} {base e size n k : Nat} {v : Value} {xs : List Value} (h : w.ownsRow base e size v n xs) (hk : v.ownBlock = some k) : k < w.heap.size := by
  obtain ⟨cur, q⟩ := own_obj h hk
  exact (show Blk w k _ cur from q).lt
/-- a file holds something else -/
def St.setF (S : St) (id : Nat) (p : List UInt8 × Nat) : St := { S with con := fun x => if x = id then p else S.con x }
theorem St.setF_con (S : St) (id : Nat) (p : List UInt8 × Nat) (x : Nat) : (S.setF id p).con x = if x = id then p else S.con x := rfl
theorem Wf.setF {S : St} (h : Wf S) {id : Nat} {p : List UInt8 × Nat} (h1 : p.2 ≤ p.1.length) (h2 : p.1.length ≤ 1000000) : Wf (S.setF id p) := by
  refine ⟨h.nodup, fun x hx => ?_, h.refs, h.inj, h.armed, h.full, fun x hx => ?_⟩
  · by_cases e : x = id
    · simpa [St.setF, e] using h1
    · simpa [St.setF, e] using h.safe x hx
  · by_cases e : x = id
    · simpa [St.setF, e] using h2
    · simpa [St.setF, e] using h.lens x hx
section
variable {w w' : World} {g base : Nat} {room : Int} {S S' : St} {M M' : FM} {mb : Nat} {uv uv' : Value} {fs fs' : List Value} {t c t' c' : Int} {rv rv' : Nat → Value}
theorem VX.fileTo (h : VX w g base room S M mb uv fs t c rv) {id : Nat} (hid : id ∈ S.ids) (hk : Keep (fun j => j = id ∨ (rv id).ownBlock = some j) w w') {nv : Value} {p : List UInt8 × Nat} {d : Bool}
    (hf : Blk w' id 58 #[nv, .int .i64 (p.2 : Int), .bool d]) (hr : w'.ownsRow base 5 1 nv p.1.length (p.1.map b8)) (hn : ∀ b, nv.ownBlock = some b → (rv id).ownBlock = some b ∨ w.heap.size ≤ b) :
    VX w' g base room (S.setF id p) M mb uv fs t c (fun x => if x = id then nv else rv x) := by
  obtain ⟨hge, d0, hf0⟩ := h.file id hid
  have hne : ∀ {ty : Nat} {cs : Array Value} {k : Nat}, Blk w k ty cs → ty ≠ 58 → ty ≠ 5 → ¬ (k = id ∨ (rv id).ownBlock = some k) := fun {ty cs k} hb ht ht2 e => by
    rcases e with e | e
    · rw [e] at hb
      have := (show w.heap[id]? = _ from hb).symm.trans hf0
      injection this with this
      injection this with _ this _
      exact ht this
    · exact ht2 (own_type_blk (h.row id hid) e hb).symm
  have hrow : ∀ {b2 e s n : Nat} {v : Value} {xs : List Value}, w.ownsRow b2 e s v n xs → e ≠ 58 → e ≠ 5 → ∀ k, v.ownBlock = some k → ¬ (k = id ∨ (rv id).ownBlock = some k) := fun ho ht ht2 k hk2 => by
    obtain ⟨cur, q⟩ := own_obj ho hk2
    exact hne (show Blk w k _ cur from q) ht ht2
  have hbox : BoxKeep w w' := BoxKeep.keep hk fun k cs ty hS hty hb => hne hb (by rcases hty with rfl | rfl | rfl | rfl <;> decide) (by rcases hty with rfl | rfl | rfl | rfl <;> decide) hS
  have hm : ¬ (mb = id ∨ (rv id).ownBlock = some mb) := fun e => by
    rcases e with e | e
    · exact h.map_ne hf0 e.symm
    · exact h.own_map (h.row id hid) e
  have hoth : ∀ x ∈ S.ids, x ≠ id → ¬ (x = id ∨ (rv id).ownBlock = some x) := fun x hx hxi e => by
    rcases e with e | e
    · exact hxi e
    · obtain ⟨-, d, hb⟩ := h.file x hx
      exact absurd (own_type_blk (h.row id hid) e hb) (by decide)
  have hothr : ∀ x ∈ S.ids, x ≠ id → ∀ k, (rv x).ownBlock = some k → ¬ (k = id ∨ (rv id).ownBlock = some k) := fun x hx hxi k hk2 e => by
    rcases e with e | e
    · subst e
      exact absurd (own_type_blk (h.row x hx) hk2 hf0) (by decide)
    · exact h.apart x hx id hid hxi k hk2 e
  refine ⟨hk.blk h.disk (hne h.disk (by decide) (by decide)), h.ge, h.mge, h.map.keep hk hm, hk.own h.undo (hrow h.undo (by decide) (by decide)), h.many, fun i f M1 M2 a b c => (h.back i f M1 M2 a b c).keep hbox, fun x hx => ?_, fun x hx => ?_, fun x hx y hy hxy b hb => ?_⟩
  · by_cases e : x = id
    · subst e
      exact ⟨hge, d, by simpa [St.setF] using hf⟩
    · obtain ⟨h1, d1, h2⟩ := h.file x hx
      exact ⟨h1, d1, by simpa [St.setF, e] using hk.blk h2 (hoth x hx e)⟩
  · by_cases e : x = id
    · subst e
      simpa [St.setF] using hr
    · simpa [St.setF, e] using hk.own (h.row x hx) (hothr x hx e)
  · by_cases e : x = id
    · subst e
      simp only [if_true] at hb
      have e2 : y ≠ x := fun e => hxy e.symm
      simp only [e2, if_false]
      intro hb2
      rcases hn b hb with h1 | h1
      · exact h.apart x hx y hy hxy b h1 hb2
      · have := own_lt (h.row y hy) hb2
        omega
    · simp only [e, if_false] at hb
      by_cases e2 : y = id
      · subst e2
        simp only [if_true]
        intro hb2
        rcases hn b hb2 with h1 | h1
        · exact h.apart x hx y hy hxy b hb h1
        · have := own_lt (h.row x hx) hb
          omega
      · simp only [e2, if_false]
        exact h.apart x hx y hy hxy b hb
/-- nothing waits any more -/
def St.clean (S : St) : St := { S with maps := [] }
theorem VX.clean (h : VX w g base room S S.cur mb uv fs t c rv) (hk : Keep (fun j => j = g) w w') (hd : Blk w' g 51 (diskC room mb (.slice none 0 0) (S.armed : Int) (S.full : Int) t c S.down)) : VX w' g base room S.clean S.cur mb (.slice none 0 0) [] t c rv := by
  have hne : ∀ {ty : Nat} {cs : Array Value} {k : Nat}, Blk w k ty cs → ty ≠ 51 → ¬ (k = g) := fun hb ht e => by
    rw [e] at hb
    have := (show w.heap[g]? = _ from hb).symm.trans h.disk
    injection this with this
    injection this with _ this _
    exact ht this
  have hrow : ∀ {b2 e s n : Nat} {v : Value} {xs : List Value}, w.ownsRow b2 e s v n xs → e ≠ 51 → ∀ k, v.ownBlock = some k → ¬ (k = g) := fun ho ht k hk2 e => by
    obtain ⟨cur, q⟩ := own_obj ho hk2
    exact hne (show Blk w k _ cur from q) ht e
  exact ⟨hd, h.ge, h.mge, h.map.keep hk (fun e => h.map_ne h.disk e.symm), World.ownsRow_nil w' base 1 1, rfl, fun i f M1 M2 a => by simp at a, fun id hid => ⟨(h.file id hid).1, by
    obtain ⟨d, hd⟩ := (h.file id hid).2
    exact ⟨d, hk.blk hd (hne hd (by decide))⟩⟩, fun id hid => hk.own (h.row id hid) (hrow (h.row id hid) (by decide)), h.apart⟩
end
theorem Wf.clean {S : St} (h : Wf S) : Wf S.clean := by
  have hsub : ∀ M ∈ S.clean.all, M ∈ S.all := fun M hM => by
    obtain rfl : M = S.cur := by simpa [St.clean, St.all] using hM
    simp [St.all]
  exact ⟨h.nodup, h.safe, fun M hM => h.refs M (hsub M hM), fun M hM => h.inj M (hsub M hM), h.armed, h.full, h.lens⟩
set_option maxRecDepth 100000 in
set_option maxHeartbeats 1000000 in
theorem vdsync_any (w : World) (id base n : Nat) (rv : Value) (s : Int) (d : Bool) (xs : List Value) (hf : Blk w id 58 #[rv, .int .i64 s, .bool d]) (hr : w.ownsRow base 5 1 rv n xs) :
    Calls Try.prog 29 #[pg id] w fun e w' => e = .returned (.tuple #[]) ∧ Blk w' id 58 #[rv, .int .i64 (n : Int), .bool d] ∧ Keep (fun j => j = id) w w' := by
  obtain ⟨A, cp, rfl, -, -, -⟩ := own_reads hr
  have hb := hf
  have h0 := hb.cell 0
  have hz := hb.frozen 1
  have h1 := hb.cell 1
  clear hr
  have Hf := Lib.hid hf
  clear hf hb
  go_enter Try.func29, Try.ntmps29
  go_wp2_with fail
  refine Go.Great.bodyPost_end0 rfl rfl ?_
  exact ⟨rfl, Hf.out.set 1 _, Keep.setCell w ⟨id, 1, none⟩ _⟩
/-- a file is safe, and all names are -/
def St.sync (S : St) (id : Nat) : St := (S.setF id ((S.con id).1, (S.con id).1.length)).clean
set_option maxRecDepth 100000 in
set_option maxHeartbeats 1000000 in
theorem vSync1_any (w : World) (g base : Nat) (room : Int) (S : St) (mb : Nat) (uv : Value) (fs : List Value) (t c : Int) (rv : Nat → Value) (h : VX w g base room S S.cur mb uv fs t c rv) (id bd : Nat) (hid : id ∈ S.ids) (hbd : Blk w bd 25 #[pg g]) :
    Calls Try.prog 28 #[pg id, pg bd] w fun e w' => e = .returned (.int .i64 0) ∧ (∃ rv', VX w' g base room (S.sync id) S.cur mb (.slice none 0 0) [] t c rv') ∧ Keep (fun j => j = id ∨ j = g) w w' := by
  obtain ⟨hge, d, hf⟩ := h.file id hid
  have hr := h.row id hid
  have Hsync := Lib.hid (vdsync_any w id base _ _ _ d _ hf hr)
  have hbi : ¬ (bd = id) := fun e => by
    rw [e] at hbd
    have := (show w.heap[id]? = _ from hbd).symm.trans hf
    injection this with this
    injection this with _ this _
    exact absurd this (by decide)
  have H := Lib.hid h
  have Hr := Lib.hid hr
  have Hbd := Lib.hid hbd
  have hc0 := hf.cell 0
  clear h hr hbd hf
  go_enter Try.func28, Try.ntmps28
  go_wp2_with fail
  refine Hsync.out.mono ?_
  rintro e w2 ⟨rfl, hf2, hk2⟩
  have hx2 := H.out.fileTo (p := ((S.con id).1, (S.con id).1.length)) hid (hk2.mono fun j hj => Or.inl (Or.inl hj)) hf2 (hk2.own Hr.out fun j hj e => by
    obtain ⟨dd, hf0⟩ := (H.out.file id hid).2
    rw [e] at hj
    exact absurd (own_type_blk Hr.out hj hf0) (by decide)) (fun b hb => Or.inl hb)
  have hdc := hk2.blk Hbd.out hbi
  have hc := hdc.cell 0
  have hg2 := hx2.disk.cell 2
  have hz2 := hx2.disk.frozen 2
  have Hx2 := Lib.hid hx2
  have Hk2 := Lib.hid hk2
  clear hf2 hk2 hx2 Hsync hdc
  go_wp2_with fail
  go_ret
  have hks : Keep (fun j => j = g) w2 (w2.setCell ⟨g, 2, none⟩ (.slice none 0 0)) := Keep.setCell w2 ⟨g, 2, none⟩ _
  exact ⟨rfl, ⟨_, Hx2.out.clean hks (Hx2.out.disk.set 2 _)⟩, (Hk2.out.mono fun j hj => Or.inl (Or.inl hj)).trans' (hks.mono fun j hj => Or.inl (Or.inr hj))⟩
/-- what Sync makes of a disk -/
def SyncTo (base g : Nat) (room : Int) (S : St) (name : ByteArray) (w : World) (x : Int) (w' : World) : Prop :=
  Below base w w' ∧ ((turnE S ≠ 0 ∧ x = turnE S ∧ VAt w' g base room (turnS S)) ∨ (turnE S = 0 ∧ S.cur name.data.toList = none ∧ x = 10 ∧ VAt w' g base room (turnS S)) ∨
    (turnE S = 0 ∧ x = 0 ∧ ∃ id, S.cur name.data.toList = some id ∧ VAt w' g base room ((turnS S).sync id)))
theorem St.cur_all (S : St) : S.cur ∈ S.all := by simp [St.all]
set_option maxRecDepth 100000 in
set_option maxHeartbeats 1000000 in
theorem vSync_any (w : World) (g base : Nat) (room : Int) (S : St) (h : VAt w g base room S) (hb : base ≤ w.heap.size) (name : ByteArray) (hs : name.size ≤ maxLen) :
    Calls Try.prog 9 #[pg g, .string name] w fun e w' => ∃ x, e = .returned (.int .i64 x) ∧ SyncTo base g room S name w x w' := by
  obtain ⟨w1, hw1⟩ : ∃ w1, w.alloc (.cells #[pg g] 25) = w1 := ⟨_, rfl⟩
  have hg1 : Grow w w1 := by rw [← hw1]; exact Grow.alloc _ _
  have hbd : Blk w1 w.heap.size 25 #[pg g] := by rw [← hw1]; exact Blk.new _ _ _
  have h1 := h.grow hg1
  have hgl : g < w.heap.size := by
    obtain ⟨-, _, _, _, _, _, _, hx⟩ := h
    exact hx.disk.lt
  have hge : base ≤ g := by
    obtain ⟨-, _, _, _, _, _, _, hx⟩ := h
    exact hx.ge
  have hbg : ¬ (w.heap.size = g) := by omega
  have hb1 : base ≤ w1.heap.size := Nat.le_trans hb hg1.size
  have Hon := Lib.hid (von_any w1 g base room S h1 name hs 28 #[pg w.heap.size] (fun _ _ => rfl) (SyncTo base g room S name w)
    (fun ht W hW hk => ⟨(Below.mono hg1 hb).trans (hk.below (fun j hj => by rw [hj]; exact hge) hb1), Or.inl ⟨ht, rfl, hW⟩⟩)
    (fun ht hn W hW hk => ⟨(Below.mono hg1 hb).trans (hk.below (fun j hj => by rw [hj]; exact hge) hb1), Or.inr (Or.inl ⟨ht, hn, rfl, hW⟩)⟩)
    (fun ht id hid W mb uv fs t c rv hwf hx hk => by
      have hi : id ∈ (turnS S).ids := hwf.refs _ (St.cur_all _) _ _ (by rw [turnS_cur]; exact hid)
      refine (vSync1_any W g base room (turnS S) mb uv fs t c rv hx id w.heap.size hi (hk.blk hbd hbg)).mono ?_
      rintro e W2 ⟨rfl, ⟨rv', hx2⟩, hk2⟩
      have hbW : base ≤ W.heap.size := Nat.le_trans hb1 hk.size
      refine ⟨0, rfl, ((Below.mono hg1 hb).trans (hk.below (fun j hj => by rw [hj]; exact hge) hb1)).trans (hk2.below (fun j hj => ?_) hbW), Or.inr (Or.inr ⟨ht, rfl, id, hid, ?_, mb, _, _, t, c, rv', hx2⟩)⟩
      · rcases hj with rfl | rfl
        · exact (hx.file j hi).1
        · exact hge
      · exact (Wf.setF (p := (((turnS S).con id).1, ((turnS S).con id).1.length)) hwf (Nat.le_refl _) (hwf.lens id hi)).clean))
  have hc := hbd.cell 0
  clear h hg1 hbd h1 hgl hge hbg hb1
  go_enter Try.func9, Try.ntmps9
  go_upto_region 1 with (fail)
  (try rw [hw1])
  clear hw1
  go_wp2_with fail
  refine Hon.out.mono ?_
  rintro e w2 ⟨x, rfl, hx⟩
  have Hx := Lib.hid hx
  clear hx Hon
  go_wp2_with fail
  go_ret
  exact ⟨x, rfl, Hx.out⟩
end Go.Proofs.Ytcfhhekklakacaa
