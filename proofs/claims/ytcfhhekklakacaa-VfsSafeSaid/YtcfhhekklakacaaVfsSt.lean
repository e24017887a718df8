/-
  A disk in memory: its state in plain Lean, what lies in which block, what may turn.
-/
import Derived.Test.YtcfhhekklakacaaVfsMap
import Derived.Test.YtcfhhekklakacaaBaseE
import Derived.RangeFuncBox
namespace Go.Proofs.Ytcfhhekklakacaa
open Go.RowKit
set_option linter.unusedVariables false
/-- a disk's state: its names; the names that each waiting change leads back to, oldest first; its files; what they hold, how much of it is safe -/
structure St where
  cur : FM
  maps : List FM
  ids : List Nat
  con : Nat → List UInt8 × Nat
  armed : Nat
  full : Nat
  down : Bool
  n : Nat
/-- all names that there may be -/
def St.all (S : St) : List FM := S.maps ++ [S.cur]
structure Wf (S : St) : Prop where
  nodup : S.ids.Nodup
  safe : ∀ id ∈ S.ids, (S.con id).2 ≤ (S.con id).1.length
  refs : ∀ M ∈ S.all, ∀ l id, M l = some id → id ∈ S.ids
  inj : ∀ M ∈ S.all, ∀ l l' id, M l = some id → M l' = some id → l = l'
  armed : S.armed ≤ 9223372036854775807
  full : S.full ≤ 9223372036854775807
  lens : ∀ id ∈ S.ids, (S.con id).1.length ≤ 1000000
/-- a pointer to a file, or to none -/
def pf (v : Option Nat) : Value := .pointer (v.map fun id => ⟨id, 0, none⟩)
abbrev pg (g : Nat) : Value := .pointer (some ⟨g, 0, none⟩)
/-- a waiting change: it leads from the names M' back to M -/
inductive UOk (w : World) (g : Nat) : Value → FM → FM → Prop
  | create {bd bn : Nat} {name : ByteArray} {M : FM} (h1 : Blk w bd 25 #[pg g]) (h2 : Blk w bn 9 #[.string name]) (hn : name.size ≤ maxLen) : UOk w g (.func (.func 24) #[] #[pg bd, pg bn]) M (putF M name.data.toList none)
  | remove {bf bd bn id : Nat} {name : ByteArray} {M : FM} (h0 : Blk w bf 53 #[pg id]) (h1 : Blk w bd 25 #[pg g]) (h2 : Blk w bn 9 #[.string name]) (hn : name.size ≤ maxLen) : UOk w g (.func (.func 43) #[] #[pg bf, pg bd, pg bn]) M (putF M name.data.toList (some id))
  | rename {bd bt bi bw bf bn id : Nat} {was : Option Nat} {to name : ByteArray} {M : FM} (h1 : Blk w bd 25 #[pg g]) (h2 : Blk w bt 9 #[.string to]) (h3 : Blk w bi 4 #[.bool was.isSome]) (h4 : Blk w bw 53 #[pf was]) (h5 : Blk w bf 53 #[pg id])
      (h6 : Blk w bn 9 #[.string name]) (hn : name.size ≤ maxLen) (ht : to.size ≤ maxLen) : UOk w g (.func (.func 31) #[] #[pg bd, pg bt, pg bi, pg bw, pg bf, pg bn]) M (putF (putF M to.data.toList was) name.data.toList (some id))
/-- boxes of closures stay -/
def BoxKeep (w w' : World) : Prop := ∀ k cs t, (t = 25 ∨ t = 9 ∨ t = 4 ∨ t = 53) → Blk w k t cs → Blk w' k t cs
section
variable {w w1 w' : World} {g : Nat} {f : Value} {M M' : FM}
theorem BoxKeep.refl (w : World) : BoxKeep w w := fun _ _ _ _ h => h
theorem BoxKeep.trans (h : BoxKeep w w1) (h' : BoxKeep w1 w') : BoxKeep w w' := fun k cs t ht hb => h' k cs t ht (h k cs t ht hb)
theorem BoxKeep.grow (h : Grow w w') : BoxKeep w w' := fun k cs t _ hb => hb.below h hb.lt
theorem BoxKeep.keep {S : Nat → Prop} (h : Keep S w w') (hS : ∀ k cs t, S k → (t = 25 ∨ t = 9 ∨ t = 4 ∨ t = 53) → ¬ Blk w k t cs) : BoxKeep w w' := fun k cs t ht hb => h.blk hb fun hs => hS k cs t hs ht hb
theorem UOk.keep (h : UOk w g f M' M) (hk : BoxKeep w w') : UOk w' g f M' M := by
  cases h with
  | create h1 h2 hn => exact .create (hk _ _ _ (by simp) h1) (hk _ _ _ (by simp) h2) hn
  | remove h0 h1 h2 hn => exact .remove (hk _ _ _ (by simp) h0) (hk _ _ _ (by simp) h1) (hk _ _ _ (by simp) h2) hn
  | rename h1 h2 h3 h4 h5 h6 hn ht => exact .rename (hk _ _ _ (by simp) h1) (hk _ _ _ (by simp) h2) (hk _ _ _ (by simp) h3) (hk _ _ _ (by simp) h4) (hk _ _ _ (by simp) h5) (hk _ _ _ (by simp) h6) hn ht
end
/-- the cells of a disk -/
abbrev diskC (room : Int) (mb : Nat) (uv : Value) (armed full t c : Int) (down : Bool) : Array Value := #[.int .i64 room, .map (some mb), uv, .int .i64 armed, .int .i64 full, .int .i64 0, .int .i64 0, .int .i64 0, .int .i64 t, .int .i64 c, .bool down, .bool true]
/-- block g is a disk in the state S, its map just now holding M -/
structure VX (w : World) (g base : Nat) (room : Int) (S : St) (M : FM) (mb : Nat) (uv : Value) (fs : List Value) (t c : Int) (rv : Nat → Value) : Prop where
  disk : Blk w g 51 (diskC room mb uv (S.armed : Int) (S.full : Int) t c S.down)
  ge : base ≤ g
  mge : base ≤ mb
  map : FMapAt w mb S.n M
  undo : w.ownsRow base 1 1 uv fs.length fs
  many : fs.length = S.maps.length
  back : ∀ i f M1 M2, fs[i]? = some f → S.all[i]? = some M1 → S.all[i + 1]? = some M2 → UOk w g f M2 M1
  file : ∀ id ∈ S.ids, base ≤ id ∧ ∃ d, Blk w id 58 #[rv id, .int .i64 ((S.con id).2 : Int), .bool d]
  row : ∀ id ∈ S.ids, w.ownsRow base 5 1 (rv id) (S.con id).1.length ((S.con id).1.map b8)
  apart : ∀ id ∈ S.ids, ∀ id' ∈ S.ids, id ≠ id' → ∀ b, (rv id).ownBlock = some b → (rv id').ownBlock ≠ some b
/-- block g is a disk in the state S -/
def VAt (w : World) (g base : Nat) (room : Int) (S : St) : Prop := Wf S ∧ ∃ mb uv fs t c rv, VX w g base room S S.cur mb uv fs t c rv
section
variable {w w' : World} {g base : Nat} {room : Int} {S S' : St} {M M' : FM} {mb : Nat} {uv uv' : Value} {fs fs' : List Value} {t c t' c' : Int} {rv rv' : Nat → Value}
theorem FMapAt.obj {w : World} {mb n : Nat} {M : FM} (h : FMapAt w mb n M) : ∃ es clock, w.heap[mb]? = some (.map es clock) := by
  obtain ⟨D, ⟨es, clock, h1, -⟩, -⟩ := h
  exact ⟨es, clock, h1⟩
theorem VX.map_ne (h : VX w g base room S M mb uv fs t c rv) {k ty : Nat} {cs : Array Value} (hb : Blk w k ty cs) : k ≠ mb := fun e => by
  obtain ⟨es, clock, h1⟩ := h.map.obj
  rw [e] at hb
  rw [show w.heap[mb]? = _ from hb] at h1
  cases h1
theorem VX.own_map (h : VX w g base room S M mb uv fs t c rv) {b2 e s n : Nat} {v : Value} {xs : List Value} (ho : w.ownsRow b2 e s v n xs) : v.ownBlock ≠ some mb := fun e => by
  obtain ⟨cur, q⟩ := own_obj ho e
  exact h.map_ne (show Blk w mb _ cur from q) rfl
/-- blocks of no disk turn -/
theorem VX.keep (h : VX w g base room S M mb uv fs t c rv) {T : Nat → Prop} (hk : Keep T w w') (h1 : ¬ T g) (h2 : ¬ T mb) (h3 : ∀ k, uv.ownBlock = some k → ¬ T k) (h4 : ∀ id ∈ S.ids, ¬ T id) (h5 : ∀ id ∈ S.ids, ∀ k, (rv id).ownBlock = some k → ¬ T k) (h6 : BoxKeep w w') : VX w' g base room S M mb uv fs t c rv :=
  ⟨hk.blk h.disk h1, h.ge, h.mge, h.map.keep hk h2, hk.own h.undo h3, h.many, fun i f M1 M2 a b c => (h.back i f M1 M2 a b c).keep h6, fun id hid => ⟨(h.file id hid).1, by
    obtain ⟨d, hd⟩ := (h.file id hid).2
    exact ⟨d, hk.blk hd (h4 id hid)⟩⟩, fun id hid => hk.own (h.row id hid) (h5 id hid), h.apart⟩
theorem VX.grow (h : VX w g base room S M mb uv fs t c rv) (hg : Grow w w') : VX w' g base room S M mb uv fs t c rv :=
  h.keep (Keep.grow (S := fun _ => False) hg) (fun h => h) (fun h => h) (fun _ _ h => h) (fun _ _ h => h) (fun _ _ _ _ h => h) (BoxKeep.grow hg)
theorem VAt.grow (h : VAt w g base room S) (hg : Grow w w') : VAt w' g base room S := by
  obtain ⟨h0, mb, uv, fs, t, c, rv, h1⟩ := h
  exact ⟨h0, mb, uv, fs, t, c, rv, h1.grow hg⟩
/-- a disk's own cells turn -/
theorem VX.cells (h : VX w g base room S M mb uv fs t c rv) (hk : Keep (fun j => j = g) w w') (hd : Blk w' g 51 (diskC room mb uv (S'.armed : Int) (S'.full : Int) t' c' S'.down)) (e1 : S'.maps = S.maps) (e2 : S'.cur = S.cur) (e3 : S'.ids = S.ids) (e4 : S'.con = S.con) (e5 : S'.n = S.n) : VX w' g base room S' M mb uv fs t' c' rv := by
  have hne : ∀ {ty : Nat} {cs : Array Value} {k : Nat}, Blk w k ty cs → ty ≠ 51 → ¬ (k = g) := fun hb ht e => by
    rw [e] at hb
    have := (show w.heap[g]? = _ from hb).symm.trans h.disk
    injection this with this
    injection this with _ this _
    exact ht this
  have hrow : ∀ {b2 e s n : Nat} {v : Value} {xs : List Value}, w.ownsRow b2 e s v n xs → e ≠ 51 → ∀ k, v.ownBlock = some k → ¬ (k = g) := fun ho ht k hk2 e => by
    obtain ⟨cur, q⟩ := own_obj ho hk2
    exact hne (show Blk w k _ cur from q) ht e
  have hbox : BoxKeep w w' := BoxKeep.keep hk fun k cs ty hS hty hb => hne hb (by rcases hty with rfl | rfl | rfl | rfl <;> decide) hS
  have hall : S'.all = S.all := by unfold St.all; rw [e1, e2]
  refine ⟨hd, h.ge, h.mge, by rw [e5]; exact h.map.keep hk (fun e => h.map_ne h.disk e.symm), hk.own h.undo (hrow h.undo (by decide)), by rw [e1]; exact h.many, by rw [hall]; exact fun i f M1 M2 a b c => (h.back i f M1 M2 a b c).keep hbox, ?_, ?_, by rw [e3]; exact h.apart⟩
  · rw [e3, e4]
    exact fun id hid => ⟨(h.file id hid).1, by
      obtain ⟨d, hd⟩ := (h.file id hid).2
      exact ⟨d, hk.blk hd (hne hd (by decide))⟩⟩
  · rw [e3, e4]
    exact fun id hid => hk.own (h.row id hid) (hrow (h.row id hid) (by decide))
/-- the map turns -/
theorem VX.turned (h : VX w g base room S M mb uv fs t c rv) (hk : Keep (fun j => j = mb) w w') (hm : FMapAt w' mb S'.n M') (e1 : S'.maps = S.maps) (e2 : S'.cur = S.cur) (e3 : S'.ids = S.ids) (e4 : S'.con = S.con) (e5 : S'.armed = S.armed) (e6 : S'.full = S.full) (e7 : S'.down = S.down) : VX w' g base room S' M' mb uv fs t c rv := by
  have hbox : BoxKeep w w' := BoxKeep.keep hk fun k cs ty hS hty hb => h.map_ne hb hS
  have hall : S'.all = S.all := by unfold St.all; rw [e1, e2]
  refine ⟨by rw [e5, e6, e7]; exact hk.blk h.disk (h.map_ne h.disk), h.ge, h.mge, hm, hk.own h.undo (fun k h1 h2 => h.own_map h.undo (by rw [h1, h2])), by rw [e1]; exact h.many, by rw [hall]; exact fun i f M1 M2 a b c => (h.back i f M1 M2 a b c).keep hbox, ?_, ?_, by rw [e3]; exact h.apart⟩
  · rw [e3, e4]
    exact fun id hid => ⟨(h.file id hid).1, by
      obtain ⟨d, hd⟩ := (h.file id hid).2
      exact ⟨d, hk.blk hd (h.map_ne hd)⟩⟩
  · rw [e3, e4]
    exact fun id hid => hk.own (h.row id hid) (fun k h1 h2 => h.own_map (h.row id hid) (by rw [h1, h2]))
end
end Go.Proofs.Ytcfhhekklakacaa
