/-
  What a deed may make of a disk's state, in plain Lean.
-/
import Derived.Test.YtcfhhekklakacaaVfsWake
import Derived.Test.YtcfhhekklakacaaVfsRename
import Derived.Test.YtcfhhekklakacaaVfsAppend
namespace Go.Proofs.Ytcfhhekklakacaa
open Go.RowKit
set_option linter.unusedVariables false
/-- a step from the state S to S': how much greater it is; what it leaves alone -/
structure Stp (wk : Bool) (nm to' : List UInt8) (len : Nat) (S S' : St) : Prop where
  maps : S'.maps.length ≤ S.maps.length + 1
  n : S'.n ≤ S.n + 2 * S.maps.length + 1
  tot : S'.total ≤ S.total + len
  far : wk = false → ∀ l id, l ≠ nm → l ≠ to' → id ∈ S.ids → (∀ M ∈ S.all, M l = some id) → id ∈ S'.ids ∧ (∀ M ∈ S'.all, M l = some id) ∧ S'.con id = S.con id
theorem Stp.same {wk : Bool} {nm to' : List UInt8} {len : Nat} {S S' : St} (h1 : S'.maps = S.maps) (h2 : S'.cur = S.cur) (h3 : S'.ids = S.ids) (h4 : S'.con = S.con) (h5 : S'.n = S.n) : Stp wk nm to' len S S' := by
  have hall : S'.all = S.all := by unfold St.all; rw [h1, h2]
  refine ⟨by rw [h1]; omega, by rw [h5]; omega, ?_, fun _ l id _ _ h h' => ?_⟩
  · have : S'.total = S.total := by unfold St.total lenF; rw [h3, h4]
    omega
  · rw [hall, h3, h4]
    exact ⟨h, h', rfl⟩
theorem sumL_congr {f g : Nat → Nat} {l : List Nat} (h : ∀ x ∈ l, f x = g x) : sumL f l = sumL g l := by
  unfold sumL
  rw [List.map_congr_left h]
theorem sumL_mono {f g : Nat → Nat} : ∀ {l : List Nat}, (∀ x ∈ l, f x ≤ g x) → sumL f l ≤ sumL g l
  | [], _ => by simp [sumL]
  | a :: l, h => by
    rw [sumL_cons, sumL_cons]
    have h1 := h a (by simp)
    have h2 := sumL_mono (l := l) fun x hx => h x (by simp [hx])
    omega
theorem setF_total {S : St} (h : S.ids.Nodup) {id : Nat} (hid : id ∈ S.ids) (p : List UInt8 × Nat) : (S.setF id p).total + (S.con id).1.length = S.total + p.1.length := by
  have e1 : (S.setF id p).total = sumL (lenF (S.setF id p)) S.ids := rfl
  have e2 : S.total = sumL (lenF S) S.ids := rfl
  rw [e1, e2, sumL_erase (lenF (S.setF id p)) hid, sumL_erase (lenF S) hid]
  have h1 : lenF (S.setF id p) id = p.1.length := by simp [lenF, St.setF]
  have h2 : lenF S id = (S.con id).1.length := rfl
  have h3 : sumL (lenF (S.setF id p)) (S.ids.erase id) = sumL (lenF S) (S.ids.erase id) := sumL_congr fun x hx => by
    have : x ≠ id := fun e => by
      rw [e] at hx
      exact absurd hx (List.Nodup.not_mem_erase h)
    simp [lenF, St.setF, this]
  omega
/-- two steps, the first of which turns nothing that is looked at -/
theorem Stp.from {wk : Bool} {nm to' : List UInt8} {len : Nat} {S S1 S' : St} (h : Stp wk nm to' len S1 S') (h1 : S1.maps = S.maps) (h2 : S1.cur = S.cur) (h3 : S1.ids = S.ids) (h4 : S1.con = S.con) (h5 : S1.n = S.n) : Stp wk nm to' len S S' := by
  have hall : S1.all = S.all := by unfold St.all; rw [h1, h2]
  have ht : S1.total = S.total := by unfold St.total lenF; rw [h3, h4]
  obtain ⟨a, b, c, d⟩ := h
  rw [h1] at a b
  rw [h5] at b
  rw [ht] at c
  rw [hall, h3, h4] at d
  exact ⟨a, b, c, d⟩
theorem Stp.ofTurn {wk : Bool} {nm to' : List UInt8} {len : Nat} {S S' : St} (h : Stp wk nm to' len (turnS S) S') : Stp wk nm to' len S S' :=
  h.from (turnS_maps S) (turnS_cur S) (turnS_ids S) (turnS_con S) (turnS_n S)
theorem Stp.turn {wk : Bool} {nm to' : List UInt8} {len : Nat} {S : St} : Stp wk nm to' len S (turnS S) :=
  Stp.same (turnS_maps S) (turnS_cur S) (turnS_ids S) (turnS_con S) (turnS_n S)
theorem wait_all (S : St) (M : FM) : (S.wait M).all = S.all ++ [M] := by
  simp [St.wait, St.all]
/-- a change of names -/
theorem Stp.wait {wk : Bool} {nm to' : List UInt8} {len : Nat} {S S1 : St} {M : FM} (h1 : S1.maps = S.maps) (h2 : S1.cur = S.cur) (h3 : ∀ id ∈ S.ids, id ∈ S1.ids ∧ S1.con id = S.con id) (h4 : S1.total = S.total) (h5 : S1.n ≤ S.n + 1)
    (hM : ∀ l, l ≠ nm → l ≠ to' → M l = S.cur l) : Stp wk nm to' len S (S1.wait M) := by
  have hall : S1.all = S.all := by unfold St.all; rw [h1, h2]
  refine ⟨?_, ?_, ?_, fun _ l id hl ht hid hs => ⟨(h3 id hid).1, fun M' hM' => ?_, (h3 id hid).2⟩⟩
  · simp [St.wait, h1]
  · show S1.n ≤ _
    omega
  · have : (S1.wait M).total = S1.total := rfl
    omega
  · rw [wait_all, hall] at hM'
    rcases List.mem_append.1 hM' with h | h
    · exact hs M' h
    · obtain rfl : M' = M := by simpa using h
      rw [hM l hl ht]
      exact hs _ (St.cur_all S)
theorem Stp.create {wk : Bool} {nm to' : List UInt8} {len : Nat} {S : St} {id : Nat} (hid : id ∉ S.ids) : Stp wk nm to' len S (S.create nm id) := by
  refine Stp.wait rfl rfl (fun x hx => ⟨by simp [St.file, St.more, hx], ?_⟩) ?_ (Nat.le_refl _) fun l h _ => putF_ne _ _ h
  · have : x ≠ id := fun e => hid (e ▸ hx)
    simp [St.file, St.more, this]
  · have e1 : ((S.file id).more).total = sumL (lenF (S.file id)) (id :: S.ids) := rfl
    rw [e1, sumL_cons]
    have h1 : lenF (S.file id) id = 0 := by simp [lenF, St.file]
    have h2 : sumL (lenF (S.file id)) S.ids = sumL (lenF S) S.ids := sumL_congr fun x hx => by
      have : x ≠ id := fun e => hid (e ▸ hx)
      simp [lenF, St.file, this]
    have h3 : S.total = sumL (lenF S) S.ids := rfl
    omega
theorem Stp.remove {wk : Bool} {nm to' : List UInt8} {len : Nat} {S : St} : Stp wk nm to' len S (S.remove nm) :=
  Stp.wait rfl rfl (fun x hx => ⟨hx, rfl⟩) rfl (Nat.le_succ _) fun l h _ => putF_ne _ _ h
theorem Stp.rename {wk : Bool} {nm to' : List UInt8} {len : Nat} {S : St} {id : Nat} : Stp wk nm to' len S (S.rename nm to' id) := by
  unfold St.rename
  split
  · exact ⟨Nat.le_succ _, by show S.n + 1 ≤ _; omega, Nat.le_add_right _ _, fun _ l id _ _ h h' => ⟨h, h', rfl⟩⟩
  · exact Stp.wait rfl rfl (fun x hx => ⟨hx, rfl⟩) rfl (Nat.le_refl _) fun l h h' => by rw [putF_ne _ _ h', putF_ne _ _ h]
theorem Stp.file {wk : Bool} {nm to' : List UInt8} {len : Nat} {S S1 : St} (hw : Wf S) {id : Nat} (hid : S.cur nm = some id) {p : List UInt8 × Nat} (hp : p.1.length ≤ (S.con id).1.length + len) (h1 : S1.maps = S.maps ∨ S1.maps = []) (h2 : S1.cur = S.cur) (h3 : S1.ids = S.ids) (h4 : S1.con = (S.setF id p).con) (h5 : S1.n = S.n) : Stp wk nm to' len S S1 := by
  have hin := hw.refs _ (St.cur_all S) _ _ hid
  have hsub : ∀ M ∈ S1.all, M ∈ S.all := fun M hM => by
    unfold St.all at hM ⊢
    rw [h2] at hM
    rcases h1 with h1 | h1
    · rw [h1] at hM
      exact hM
    · rw [h1] at hM
      simp only [List.nil_append, List.mem_singleton] at hM
      simp [hM]
  refine ⟨?_, by rw [h5]; omega, ?_, fun _ l x hl _ hx hs => ⟨by rw [h3]; exact hx, fun M hM => hs M (hsub M hM), ?_⟩⟩
  · rcases h1 with h1 | h1
    · rw [h1]; omega
    · rw [h1]; simp
  · have e : S1.total = (S.setF id p).total := by unfold St.total lenF; rw [h3, h4]; rfl
    have := setF_total hw.nodup hin p
    omega
  · have hne : x ≠ id := fun e => hl (hw.inj _ (St.cur_all S) _ _ _ (hs _ (St.cur_all S)) (e ▸ hid))
    rw [h4]
    simp [St.setF, hne]
theorem woken_total {S : St} {M : FM} {con : Nat → List UInt8 × Nat} {n : Nat} (h : ∀ id ∈ S.ids, TornOk (S.con id) (con id)) : (S.woken M con n).total ≤ S.total := by
  have e1 : (S.woken M con n).total = sumL (lenF (S.woken M con n)) S.ids := rfl
  have e2 : S.total = sumL (lenF S) S.ids := rfl
  rw [e1, e2]
  exact sumL_mono fun x hx => (h x hx).1
theorem Stp.wake {nm to' : List UInt8} {len : Nat} {S : St} {M : FM} {con : Nat → List UInt8 × Nat} {n : Nat} (hn : n ≤ S.n + 2 * S.maps.length) (h : ∀ id ∈ S.ids, TornOk (S.con id) (con id)) : Stp true nm to' len S (S.woken M con n) := by
  refine ⟨by simp [St.woken], ?_, ?_, fun h => by cases h⟩
  · show n ≤ _
    omega
  · have := woken_total (M := M) (n := n) h
    omega
end Go.Proofs.Ytcfhhekklakacaa
