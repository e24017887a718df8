/-
  The walk of mudlarklaw03's awake (the chapter's example).
-/
import Derived.Lib.SlBytesConst
import Derived.Laws.BytesArg
import Derived.Test.YtcimkoehcdfjdaaGreatDoorFramePut
import Derived.Test.YtcimkoehcdfjdaaGreatDoorFrameGet
namespace Go.Proofs.YtcimkoehcdfjdaaGreatDoor
open Go.RowKit WireM

theorem PartsAt.empty (w : World) : PartsAt w 0 none 0 [] := ⟨rfl, fun h => absurd h (by omega)⟩
theorem PartsAt.one {w : World} {B g n c : Nat} {A : Option Addr} {tag : UInt8} {b : List UInt8} (hb : Blk w g 40 #[.int .u8 (tag.toNat : Int), .slice A n c]) (hg : g < B) (hr : BytesAt w B A n b) (hn : n ≤ c) (hc : c ≤ maxLen) (hs : n ≤ 140737488351232) : PartsAt w B (some ⟨g, 0, none⟩) 1 [⟨tag, b⟩] := by
  refine ⟨rfl, fun _ => ⟨g, 0, rfl, hg, fun j t hj => ?_⟩⟩
  cases j with
  | zero =>
    obtain rfl : (⟨tag, b⟩ : PartM) = t := by simpa using hj
    refine ⟨[.int .u8 (tag.toNat : Int), .slice A n c], rfl, ⟨A, n, c, rfl, hn, hc, hs, hr⟩, fun i u hu => ?_⟩
    rw [hb.cell, Nat.zero_mul]
    simp only [Nat.zero_add]
    simpa using hu
  | succ j => simp at hj
theorem part_le {ts : List PartM} {t : PartM} (h : t ∈ ts) : t.b.length ≤ (bodyB ts).length := by
  induction ts with
  | nil => simp at h
  | cons x r ih =>
    simp only [bodyB, partB, List.length_append, List.length_cons]
    rcases List.mem_cons.1 h with rfl | h
    · omega
    · have := ih h
      omega
theorem Get_yes (w : World) (B : Nat) (A : Option Addr) (n c : Nat) (b : List UInt8) (ts : List PartM) (hg : getB b = some ts) (hR : BytesAt w B A n b) (hB : B ≤ w.heap.size) (hnc : n ≤ c) (hc : c ≤ maxLen) (hn : n ≤ 67108864) :
    Calls Tryz.prog 45 #[.slice A n c] w fun e w' => ∃ v vs, e = .returned (.tuple #[v, .int .i64 0]) ∧ PartsOwn w.heap.size w' v ts vs ∧ Grow w w' :=
  (Get_any w B A n c b hR hB hnc hc hn).mono fun e w' h => by
    rcases h with ⟨ts2, v, vs, h1, h2⟩ | ⟨h1, _⟩
    · rw [hg] at h1
      cases h1
      exact ⟨v, vs, h2⟩
    · rw [hg] at h1
      cases h1
theorem Get_no (w : World) (B : Nat) (A : Option Addr) (n c : Nat) (b : List UInt8) (hg : getB b = none) (hR : BytesAt w B A n b) (hB : B ≤ w.heap.size) (hnc : n ≤ c) (hc : c ≤ maxLen) (hn : n ≤ 67108864) :
    Calls Tryz.prog 45 #[.slice A n c] w fun e w' => e = .returned (.tuple #[.slice none 0 0, .int .i64 9]) ∧ Grow w w' :=
  (Get_any w B A n c b hR hB hnc hc hn).mono fun e w' h => by
    rcases h with ⟨ts2, v, vs, h1, _⟩ | ⟨_, h2⟩
    · rw [hg] at h1
      cases h1
    · exact h2
theorem file_nil_len : (fileB []).length = 8 := by rw [fileB_len]; rfl
theorem file_nil_head : (fileB [])[0]? = some 8 := by rw [fileB, headB, bodyB]; rfl
theorem file_ab_len : (fileB [⟨5, [97, 98]⟩]).length = 12 := by
  rw [fileB_len]
  have : (bodyB [⟨5, [97, 98]⟩]).length = 4 := by simp [bodyB, partB, enc_small]
  omega

end Go.Proofs.YtcimkoehcdfjdaaGreatDoor
