/-
  Words for what slices in memory read as: a row of cells, a row of bytes, rows of bytes; nil is let in. No program is in sight.
-/
import Derived.Test.YtbbjeokecgnfpaaMem
namespace Go.Proofs.Ytbbjeokecgnfpaa
open Go.RowKit

/-- the slice value .slice A n _ (elements of s cells) holds the cells xs and lies below block B -/
def ReadsAt (w : World) (B s : Nat) (A : Option Addr) (n : Nat) (xs : List Value) : Prop :=
  xs.length = n * s ∧ (0 < n → ∃ b off, A = some ⟨b, off, none⟩ ∧ b < B ∧ ∀ j u, xs[j]? = some u → w.cell? ⟨b, off + j, none⟩ = some u)

section
variable {w w' : World} {B B' s n : Nat} {A : Option Addr} {xs : List Value}
theorem ReadsAt.nil : ReadsAt w B s A 0 [] := ⟨by simp, fun h => absurd h (by omega)⟩
theorem ReadsAt.keep (h : ReadsAt w B s A n xs) (hk : ∀ p : Addr, p.block < B → w'.cell? p = w.cell? p) : ReadsAt w' B s A n xs :=
  ⟨h.1, fun hn => by
    obtain ⟨b, off, e, hb, hc⟩ := h.2 hn
    exact ⟨b, off, e, hb, fun j u hu => (hk _ hb).trans (hc j u hu)⟩⟩
theorem ReadsAt.more (h : ReadsAt w B s A n xs) (hB : B ≤ B') : ReadsAt w B' s A n xs :=
  ⟨h.1, fun hn => by
    obtain ⟨b, off, e, hb, hc⟩ := h.2 hn
    exact ⟨b, off, e, by omega, hc⟩⟩
theorem ReadsAt.below (h : ReadsAt w B s A n xs) (hb : Below B w w') : ReadsAt w' B s A n xs := h.keep fun _ hp => hb.cell hp
theorem ReadsAt.drewN (h : ReadsAt w B s A n xs) (k : Nat) : ReadsAt (w.drewN k) B s A n xs := h
end

/-- a byte as a cell -/
def b8 (x : UInt8) : Value := .int .u8 (x.toNat : Int)

/-- the slice reads as the bytes l -/
def BytesAt (w : World) (B : Nat) (A : Option Addr) (n : Nat) (l : List UInt8) : Prop := ReadsAt w B 1 A n (l.map b8)

section
variable {w w' : World} {B B' n : Nat} {A : Option Addr} {l : List UInt8}
theorem BytesAt.len (h : BytesAt w B A n l) : l.length = n := by simpa using h.1
theorem BytesAt.below (h : BytesAt w B A n l) (hb : Below B w w') : BytesAt w' B A n l := ReadsAt.below h hb
theorem BytesAt.more (h : BytesAt w B A n l) (hB : B ≤ B') : BytesAt w B' A n l := ReadsAt.more h hB
theorem BytesAt.drewN (h : BytesAt w B A n l) (k : Nat) : BytesAt (w.drewN k) B A n l := h
theorem BytesAt.nil : BytesAt w B A 0 [] := ReadsAt.nil
theorem BytesAt.at_ (h : BytesAt w B A n l) (hn : 0 < n) : ∃ b off, A = some ⟨b, off, none⟩ ∧ b < B ∧ ∀ j x, l[j]? = some x → w.cell? ⟨b, off + j, none⟩ = some (.int .u8 (x.toNat : Int)) := by
  obtain ⟨b, off, e, hb, hc⟩ := h.2 hn
  exact ⟨b, off, e, hb, fun j x hx => hc j (b8 x) (by rw [List.getElem?_map, hx]; rfl)⟩
theorem BytesAt.of_cells {g : Nat} {cs : Array Value} (hg : Cells w g cs) (hB : g < B) (hl : l.length = n) (h : ∀ (j : Nat) (x : UInt8), l[j]? = some x → cs[j]? = some (b8 x)) : BytesAt w B (some ⟨g, 0, none⟩) n l := by
  refine ⟨by simpa using hl, fun _ => ⟨g, 0, rfl, hB, fun j u hu => ?_⟩⟩
  rw [List.getElem?_map] at hu
  cases hx : l[j]? with
  | none => rw [hx] at hu; cases hu
  | some x =>
    rw [hx] at hu
    cases hu
    rw [hg, Nat.zero_add]
    exact h j x hx
theorem BytesAt.of_row {g : Nat} (hg : Cells w g (l.map b8).toArray) (hB : g < B) : BytesAt w B (some ⟨g, 0, none⟩) l.length l :=
  BytesAt.of_cells hg hB rfl (fun j x hx => by simp [hx])
theorem BytesAt.keep (h : BytesAt w B A n l) (hk : ∀ p : Addr, p.block < B → w'.cell? p = w.cell? p) : BytesAt w' B A n l := ReadsAt.keep h hk
end

/-- an int as a cell -/
def i64v (x : Int) : Value := .int .i64 x
/-- the slice reads as the ints l -/
def IntsAt (w : World) (B : Nat) (A : Option Addr) (n : Nat) (l : List Int) : Prop := ReadsAt w B 1 A n (l.map i64v)

section
variable {w w' : World} {B B' n : Nat} {A : Option Addr} {l : List Int}
theorem IntsAt.len (h : IntsAt w B A n l) : l.length = n := by simpa using h.1
theorem IntsAt.below (h : IntsAt w B A n l) (hb : Below B w w') : IntsAt w' B A n l := ReadsAt.below h hb
theorem IntsAt.more (h : IntsAt w B A n l) (hB : B ≤ B') : IntsAt w B' A n l := ReadsAt.more h hB
theorem IntsAt.keep (h : IntsAt w B A n l) (hk : ∀ p : Addr, p.block < B → w'.cell? p = w.cell? p) : IntsAt w' B A n l := ReadsAt.keep h hk
theorem IntsAt.drewN (h : IntsAt w B A n l) (k : Nat) : IntsAt (w.drewN k) B A n l := h
theorem IntsAt.nil : IntsAt w B A 0 [] := ReadsAt.nil
theorem IntsAt.at_ (h : IntsAt w B A n l) (hn : 0 < n) : ∃ b off, A = some ⟨b, off, none⟩ ∧ b < B ∧ ∀ j x, l[j]? = some x → w.cell? ⟨b, off + j, none⟩ = some (.int .i64 x) := by
  obtain ⟨b, off, e, hb, hc⟩ := h.2 hn
  exact ⟨b, off, e, hb, fun j x hx => hc j (i64v x) (by rw [List.getElem?_map, hx]; rfl)⟩
theorem IntsAt.of_row {g : Nat} (hg : Cells w g (l.map i64v).toArray) (hB : g < B) : IntsAt w B (some ⟨g, 0, none⟩) l.length l :=
  ⟨by simp, fun _ => ⟨g, 0, rfl, hB, fun j u hu => by rw [hg, Nat.zero_add]; simpa using hu⟩⟩
end

/-- a slice of slices of bytes reads as the rows ls -/
def RowsAt (w : World) (B : Nat) (A : Option Addr) (n : Nat) (ls : List (List UInt8)) : Prop :=
  ls.length = n ∧ (0 < n → ∃ b off, A = some ⟨b, off, none⟩ ∧ b < B ∧ ∀ (j : Nat) (l : List UInt8), ls[j]? = some l → ∃ A' n' c', w.cell? ⟨b, off + j, none⟩ = some (.slice A' n' c') ∧ n' ≤ c' ∧ c' ≤ maxLen ∧ BytesAt w B A' n' l)

section
variable {w w' : World} {B B' n : Nat} {A : Option Addr} {ls : List (List UInt8)}
theorem RowsAt.below (h : RowsAt w B A n ls) (hb : Below B w w') : RowsAt w' B A n ls :=
  ⟨h.1, fun hn => by
    obtain ⟨b, off, e, hlt, hc⟩ := h.2 hn
    refine ⟨b, off, e, hlt, fun j l hl => ?_⟩
    obtain ⟨A', n', c', h1, h2, h3, h4⟩ := hc j l hl
    exact ⟨A', n', c', (hb.cell (p := ⟨b, off + j, none⟩) hlt).trans h1, h2, h3, h4.below hb⟩⟩
theorem RowsAt.more (h : RowsAt w B A n ls) (hB : B ≤ B') : RowsAt w B' A n ls :=
  ⟨h.1, fun hn => by
    obtain ⟨b, off, e, hlt, hc⟩ := h.2 hn
    refine ⟨b, off, e, by omega, fun j l hl => ?_⟩
    obtain ⟨A', n', c', h1, h2, h3, h4⟩ := hc j l hl
    exact ⟨A', n', c', h1, h2, h3, h4.more hB⟩⟩
theorem RowsAt.one {g n' c' : Nat} {A' : Option Addr} {l : List UInt8} (hg : Cells w g #[.slice A' n' c']) (hB : g < B) (h : BytesAt w B A' n' l) (hn : n' ≤ c') (hc : c' ≤ maxLen) : RowsAt w B (some ⟨g, 0, none⟩) 1 [l] := by
  refine ⟨rfl, fun _ => ⟨g, 0, rfl, hB, fun j l' hl => ?_⟩⟩
  cases j with
  | zero =>
    obtain rfl : l = l' := by simpa using hl
    exact ⟨A', n', c', by rw [hg]; rfl, hn, hc, h⟩
  | succ j => simp at hl
theorem RowsAt.drewN (h : RowsAt w B A n ls) (k : Nat) : RowsAt (w.drewN k) B A n ls := h
theorem RowsAt.nil : RowsAt w B A 0 [] := ⟨rfl, fun h => absurd h (by omega)⟩
end
end Go.Proofs.Ytbbjeokecgnfpaa
