/-
  The walks of a disk's waits, look, New, Crash, Arm, Full.
-/
import Derived.Test.YtcfhhekklakacaaVfsTurn
namespace Go.Proofs.Ytcfhhekklakacaa
open Go.RowKit
set_option linter.unusedVariables false
theorem funcsTy : AppTy Try.prog 47 1 .nilFunc 1 8 := AppTy.mk' Try.underlying47 (by kernel_rfl) rfl (by decide)
/-- one more change waits -/
def St.wait (S : St) (M : FM) : St := { S with cur := M, maps := S.maps ++ [S.cur] }
section
variable {w w' : World} {g base : Nat} {room : Int} {S : St} {M : FM} {mb : Nat} {uv : Value} {fs : List Value} {t c : Int} {rv : Nat → Value}
theorem VX.own_ne (h : VX w g base room S M mb uv fs t c rv) {k ty : Nat} {cs : Array Value} (hb : Blk w k ty cs) (hne : ty ≠ 1) : uv.ownBlock ≠ some k := fun e => hne (own_type_blk h.undo e hb).symm
theorem VX.wait (h : VX w g base room S M mb uv fs t c rv) {M2 : FM} {fv uv' : Value} (hU : UOk w g fv M2 S.cur) (hk : Keep (fun j => j = g ∨ uv.ownBlock = some j) w w') (hd : Blk w' g 51 (diskC room mb uv' (S.armed : Int) (S.full : Int) t c S.down)) (hu : w'.ownsRow base 1 1 uv' (fs ++ [fv]).length (fs ++ [fv])) :
    VX w' g base room (S.wait M2) M mb uv' (fs ++ [fv]) t c rv := by
  have hne : ∀ {ty : Nat} {cs : Array Value} {k : Nat}, Blk w k ty cs → ty ≠ 51 → ty ≠ 1 → ¬ (k = g ∨ uv.ownBlock = some k) := fun {ty cs k} hb ht ht2 e => by
    rcases e with e | e
    · rw [e] at hb
      have := (show w.heap[g]? = _ from hb).symm.trans h.disk
      injection this with this
      injection this with _ this _
      exact ht this
    · exact h.own_ne hb ht2 e
  have hrow : ∀ {b2 e s n : Nat} {v : Value} {xs : List Value}, w.ownsRow b2 e s v n xs → e ≠ 51 → e ≠ 1 → ∀ k, v.ownBlock = some k → ¬ (k = g ∨ uv.ownBlock = some k) := fun ho ht ht2 k hk2 => by
    obtain ⟨cur, q⟩ := own_obj ho hk2
    exact hne (show Blk w k _ cur from q) ht ht2
  have hbox : BoxKeep w w' := BoxKeep.keep hk fun k cs ty hS hty hb => hne hb (by rcases hty with rfl | rfl | rfl | rfl <;> decide) (by rcases hty with rfl | rfl | rfl | rfl <;> decide) hS
  have hm : ¬ (mb = g ∨ uv.ownBlock = some mb) := fun e => by
    rcases e with e | e
    · exact h.map_ne h.disk e.symm
    · exact h.own_map h.undo e
  have hall : (S.wait M2).all = S.all ++ [M2] := by simp [St.wait, St.all]
  have hal : S.all.length = fs.length + 1 := by simp [St.all, h.many]
  refine ⟨hd, h.ge, h.mge, h.map.keep hk hm, hu, by simp [St.wait, h.many], ?_, ?_, ?_, h.apart⟩
  · intro i f M1 M3 hf h1 h3
    rw [hall] at h1 h3
    rcases Nat.lt_or_ge i fs.length with hi | hi
    · rw [List.getElem?_append_left hi] at hf
      rw [List.getElem?_append_left (by omega)] at h1 h3
      exact (h.back i f M1 M3 hf h1 h3).keep hbox
    · rw [List.getElem?_append_right hi] at hf
      have hi0 : i = fs.length := by
        have := (List.getElem?_eq_some_iff.1 hf).1
        simp only [List.length_cons, List.length_nil] at this
        omega
      subst hi0
      rw [Nat.sub_self] at hf
      obtain rfl : fv = f := by simpa using hf
      rw [List.getElem?_append_right (by omega), hal, Nat.sub_self] at h3
      obtain rfl : M2 = M3 := by simpa using h3
      rw [List.getElem?_append_left (by omega)] at h1
      have h4 : S.all[fs.length]? = some S.cur := by
        unfold St.all
        rw [List.getElem?_append_right (by rw [h.many]; exact Nat.le_refl _), h.many, Nat.sub_self]
        rfl
      rw [h4] at h1
      injection h1 with h1
      subst h1
      exact hU.keep hbox
  · exact fun id hid => ⟨(h.file id hid).1, by
      obtain ⟨d, hd⟩ := (h.file id hid).2
      exact ⟨d, hk.blk hd (hne hd (by decide) (by decide))⟩⟩
  · exact fun id hid => hk.own (h.row id hid) (hrow (h.row id hid) (by decide) (by decide))
end
set_option maxRecDepth 100000 in
set_option maxHeartbeats 2000000 in
theorem vwaits_any (w : World) (g base : Nat) (room : Int) (S : St) (M : FM) (mb : Nat) (uv : Value) (fs : List Value) (t c : Int) (rv : Nat → Value) (h : VX w g base room S M mb uv fs t c rv) (k : Nat) (cs : Array Value) (M2 : FM) (hU : UOk w g (.func (.func k) #[] cs) M2 S.cur) (hm : S.maps.length ≤ 1000000) (hb : base ≤ w.heap.size) :
    Calls Try.prog 23 #[pg g, .func (.func k) #[] cs] w fun e w' => e = .returned (.tuple #[]) ∧ (∃ uv', VX w' g base room (S.wait M2) M mb uv' (fs ++ [.func (.func k) #[] cs]) t c rv) ∧ Keep (fun j => j = g ∨ uv.ownBlock = some j) w w' := by
  have hT := funcsTy
  have h2 := h.disk.cell 2
  have H := Lib.hid h
  have HU := Lib.hid hU
  have hown := h.undo
  have hml : fs.length ≤ 1000000 := by rw [h.many]; exact hm
  obtain ⟨m, hmm⟩ : ∃ m, m = fs.length := ⟨_, rfl⟩
  obtain ⟨A1, c1, rfl, -, -, -⟩ := own_reads hown
  rw [← hmm] at hown hml H h2 ⊢
  have Hm := Lib.hid hmm
  have hown1 := own_below hown (Grow.alloc w (.cells #[.func (.func k) #[] cs] 1))
  have hb1 : base ≤ (w.alloc (.cells #[.func (.func k) #[] cs] 1)).heap.size := Nat.le_trans hb (Grow.alloc w _).size
  clear h hU hown hmm hm
  go_enter Try.func23, Try.ntmps23
  go_wp2_with (at_builtin; refine wpList_append_reads (v := .slice A1 m c1) _ rfl (.tmp 8) (.tmp 10) rfl hT rfl hown1 rfl (ReadsAt.made1 w 1 (.func (.func k) #[] cs)) (by simp [Value.oneCell']) (by simp only [maxLen]; omega) (by omega) hb1 ?_; intro v' w2 hown2 hgr2 hat2; have hk2 : Keep (fun j => (Value.slice A1 m c1).ownBlock = some j) w w2 := (Keep.grow (Grow.alloc w _)).trans' (Keep.grown hgr2); have hd2 := hk2.blk H.out.disk (H.out.own_ne H.out.disk (by decide)); have hf2 := hd2.frozen 2; have hc2 := hd2.cell 2; obtain ⟨A2, c2, rfl, -, -, -⟩ := own_reads hown2; have Hk2 := Lib.hid hk2; have Hd2 := Lib.hid hd2; have Hown2 := Lib.hid hown2; clear hk2 hd2 hown2 hgr2 hat2)
  refine Go.Great.bodyPost_end0 rfl rfl ?_
  have hks : Keep (fun j => j = g) w2 (w2.setCell ⟨g, 2, none⟩ (.slice A2 (m + 1) c2)) := Keep.setCell w2 ⟨g, 2, none⟩ _
  have hk : Keep (fun j => j = g ∨ (Value.slice A1 m c1).ownBlock = some j) w (w2.setCell ⟨g, 2, none⟩ (.slice A2 (m + 1) c2)) := (Hk2.out.mono fun j hj => Or.inl (Or.inr hj)).trans' (hks.mono fun j hj => Or.inl (Or.inl hj))
  refine ⟨rfl, ⟨_, H.out.wait HU.out hk (Hd2.out.set 2 _) ?_⟩, hk⟩
  rw [List.length_append, ← Hm.out]
  refine hks.own Hown2.out fun j hj e => ?_
  have e : j = g := e
  subst e
  exact absurd (own_type_blk Hown2.out hj Hd2.out) (by decide)
end Go.Proofs.Ytcfhhekklakacaa
