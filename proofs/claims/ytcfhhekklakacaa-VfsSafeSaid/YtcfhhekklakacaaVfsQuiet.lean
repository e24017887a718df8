/-
  A disk that is up, and neither armed nor full: what its methods do is known.
-/
import Derived.Test.YtcfhhekklakacaaVfsLaw
namespace Go.Proofs.Ytcfhhekklakacaa
open Go.RowKit
set_option linter.unusedVariables false
structure Quiet (S : St) (N T : Nat) : Prop where
  down : S.down = false
  armed : S.armed = 0
  full : S.full = 0
  maps : S.maps.length ≤ N
  n : S.n ≤ N
  tot : S.total ≤ T
theorem newS_quiet : Quiet newS 0 0 := ⟨rfl, rfl, rfl, Nat.le_refl _, Nat.le_refl _, Nat.le_refl _⟩
section
variable {S : St} {N T : Nat}
theorem Quiet.turnE (h : Quiet S N T) : turnE S = 0 := by
  unfold Go.Proofs.Ytcfhhekklakacaa.turnE
  rw [h.down, h.armed]
  rfl
theorem Quiet.turnS (h : Quiet S N T) : turnS S = S := by
  have h1 := h.down
  have h2 := h.armed
  unfold Go.Proofs.Ytcfhhekklakacaa.turnS
  rw [h1, h2]
  cases S
  simp only at h1 h2
  subst h1 h2
  rfl
theorem Quiet.more (h : Quiet S N T) {N' T' : Nat} (h1 : N ≤ N') (h2 : T ≤ T') : Quiet S N' T' := ⟨h.down, h.armed, h.full, Nat.le_trans h.maps h1, Nat.le_trans h.n h1, Nat.le_trans h.tot h2⟩
/-- a step that leaves the disk up -/
theorem Quiet.step {wk : Bool} {nm to' : List UInt8} {len : Nat} {S' : St} (h : Quiet S N T) (hs : Stp wk nm to' len S S') (h1 : S'.down = false) (h2 : S'.armed = 0) (h3 : S'.full = 0) (hn : S'.n ≤ N + 1) : Quiet S' (N + 1) (T + len) :=
  ⟨h1, h2, h3, by have := hs.maps; have := h.maps; omega, hn, by have := hs.tot; have := h.tot; omega⟩
theorem Quiet.fullTo (h : Quiet S N T) : S.fullTo (S.full - 1) = S := by
  have h1 := h.full
  unfold St.fullTo
  cases S
  simp only at h1
  subst h1
  rfl
end
section
variable {w : World} {g base : Nat} {S : St} {N T : Nat} {room : Int}
theorem q_create (h : VAt w g base room S) (hb : base ≤ w.heap.size) (hq : Quiet S N T) (name : ByteArray) (hs : name.size ≤ 281474976710656) (hN : N ≤ 900000) (hr : rightB name = true) (hc : S.cur name.data.toList = none) :
    Calls Try.prog 7 #[pg g, .string name] w fun e w' => e = .returned (.int .i64 0) ∧ Below base w w' ∧ ∃ id, id ∉ S.ids ∧ VAt w' g base room (S.create name.data.toList id) ∧ Quiet (S.create name.data.toList id) (N + 1) T := by
  have hm := hq.maps
  have hn := hq.n
  refine (vCreate_any w g base room S h hb name hs (by omega) (by unfold maxLen; omega)).mono ?_
  rintro e w' ⟨hbel, ⟨ht, -⟩ | ⟨-, hr', -⟩ | ⟨-, -, ⟨id, hid⟩, -⟩ | ⟨-, -, -, rfl, id, hid, hv⟩⟩
  · exact absurd hq.turnE ht
  · rw [hr] at hr'
    cases hr'
  · rw [hc] at hid
    cases hid
  · rw [hq.turnS] at hv
    exact ⟨rfl, hbel, id, hid, hv, hq.step (len := 0) (wk := false) (to' := []) (Stp.create hid) hq.down hq.armed hq.full (Nat.succ_le_succ hn)⟩
theorem q_append (h : VAt w g base room S) (hb : base ≤ w.heap.size) (hq : Quiet S N T) (name : ByteArray) (hs : name.size ≤ maxLen) {B : Nat} (A : Option Addr) (n cp : Nat) (l : List UInt8) (hl : l.length = n) (hR : ∀ W, Keep (fun j => j = g) w W → ReadsAt W B 1 A n (l.map b8)) (hT : T + n ≤ 100000) (hroom : ((T + n : Nat) : Int) ≤ room ∧ room ≤ 67108864) {id : Nat} (hc : S.cur name.data.toList = some id) :
    Calls Try.prog 8 #[pg g, .string name, .slice A n cp] w fun e w' => e = .returned (.int .i64 0) ∧ Below base w w' ∧ VAt w' g base room (S.setF id ((S.con id).1 ++ l, (S.con id).2)) ∧ Quiet (S.setF id ((S.con id).1 ++ l, (S.con id).2)) N (T + n) := by
  have hm := hq.tot
  refine (vAppend_any w g base B room S h hb name hs A n cp l hl hR (by omega) (by omega)).mono ?_
  rintro e w' ⟨x, rfl, hbel, ⟨ht, -⟩ | ⟨-, hc', -⟩ | ⟨-, id', hid, ⟨-, hf, -⟩ | ⟨rfl, -, hv⟩⟩⟩
  · exact absurd hq.turnE ht
  · rw [hc] at hc'
    cases hc'
  · rcases hf with hf | hf
    · rw [hq.full] at hf
      cases hf
    · omega
  · rw [hc] at hid
    injection hid with hid
    subst hid
    rw [hq.turnS, hq.fullTo] at hv
    refine ⟨rfl, hbel, hv, hq.down, hq.armed, hq.full, hq.maps, hq.n, ?_⟩
    have hin := h.1.refs _ (St.cur_all S) _ _ hc
    have := setF_total h.1.nodup hin ((S.con id).1 ++ l, (S.con id).2)
    simp only [List.length_append] at this
    omega
theorem sync_total {S : St} (hw : Wf S) {id : Nat} (hid : id ∈ S.ids) : (S.sync id).total = S.total := by
  have e : (S.sync id).total = (S.setF id ((S.con id).1, (S.con id).1.length)).total := rfl
  have := setF_total hw.nodup hid ((S.con id).1, (S.con id).1.length)
  simp only at this
  omega
theorem q_sync (h : VAt w g base room S) (hb : base ≤ w.heap.size) (hq : Quiet S N T) (name : ByteArray) (hs : name.size ≤ maxLen) {id : Nat} (hc : S.cur name.data.toList = some id) :
    Calls Try.prog 9 #[pg g, .string name] w fun e w' => e = .returned (.int .i64 0) ∧ Below base w w' ∧ VAt w' g base room (S.sync id) ∧ Quiet (S.sync id) N T := by
  refine (vSync_any w g base room S h hb name hs).mono ?_
  rintro e w' ⟨x, rfl, hbel, ⟨ht, -⟩ | ⟨-, hc', -⟩ | ⟨-, rfl, id', hid, hv⟩⟩
  · exact absurd hq.turnE ht
  · rw [hc] at hc'
    cases hc'
  · rw [hc] at hid
    injection hid with hid
    subst hid
    rw [hq.turnS] at hv
    exact ⟨rfl, hbel, hv, hq.down, hq.armed, hq.full, Nat.zero_le _, hq.n, by rw [sync_total h.1 (h.1.refs _ (St.cur_all S) _ _ hc)]; exact hq.tot⟩
theorem q_rename (h : VAt w g base room S) (hb : base ≤ w.heap.size) (hq : Quiet S N T) (a b : ByteArray) (hs : a.size ≤ 281474976710656) (hts : b.size ≤ 281474976710656) (hN : N ≤ 900000) (hr : (rightB a && rightB b) = true) {id : Nat} (hc : S.cur a.data.toList = some id) :
    Calls Try.prog 10 #[pg g, .string a, .string b] w fun e w' => e = .returned (.int .i64 0) ∧ Below base w w' ∧ VAt w' g base room (S.rename a.data.toList b.data.toList id) ∧ Quiet (S.rename a.data.toList b.data.toList id) (N + 1) T := by
  have hm := hq.maps
  have hn := hq.n
  refine (vRename_any w g base room S h hb a b hs hts (by omega) (by unfold maxLen; omega)).mono ?_
  rintro e w' ⟨x, rfl, hbel, ⟨ht, -⟩ | ⟨-, hr', -⟩ | ⟨-, -, hc', -⟩ | ⟨-, -, rfl, id', hid, hv⟩⟩
  · exact absurd hq.turnE ht
  · rw [hr] at hr'
    cases hr'
  · rw [hc] at hc'
    cases hc'
  · rw [hc] at hid
    injection hid with hid
    subst hid
    rw [hq.turnS] at hv
    refine ⟨rfl, hbel, hv, hq.step (len := 0) (wk := false) (Stp.rename (id := id) (nm := a.data.toList) (to' := b.data.toList)) ?_ ?_ ?_ ?_⟩
    all_goals unfold St.rename; split
    · exact hq.down
    · exact hq.down
    · exact hq.armed
    · exact hq.armed
    · exact hq.full
    · exact hq.full
    · exact Nat.succ_le_succ hn
    · exact Nat.succ_le_succ hn
end
end Go.Proofs.Ytcfhhekklakacaa
