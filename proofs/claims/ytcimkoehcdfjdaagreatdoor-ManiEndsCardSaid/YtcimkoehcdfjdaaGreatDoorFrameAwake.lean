/-
  The walk of mudlarklaw03's awake (the chapter's example).
-/
import Derived.Lib.SlBytesConst
import Derived.Laws.BytesArg
import Derived.Test.YtcimkoehcdfjdaaGreatDoorFramePut
import Derived.Test.YtcimkoehcdfjdaaGreatDoorFGetAll
namespace Go.Proofs.YtcimkoehcdfjdaaGreatDoor
open Go.RowKit WireM

theorem PartsAt.one {w : World} {B g n c : Nat} {A : Option Addr} {tag : UInt8} {b : List UInt8} (hb : Blk w g 40 #[.int .u8 (tag.toNat : Int), .slice A n c]) (hg : g < B) (hr : BytesAt w B A n b) (hn : n ≤ c) (hc : c ≤ maxLen) (hs : n ≤ 140737488351232) : PartsAt w B (some ⟨g, 0, none⟩) 1 [⟨tag, b⟩] := by
 refine ⟨rfl, fun _ => ⟨g, 0, rfl, hg, fun j t hj => ?_⟩⟩
 cases j with
 | zero =>
  obtain rfl : (⟨tag, b⟩ : PartM) = t := by simpa using hj
  refine ⟨[.int .u8 (tag.toNat : Int), .slice A n c], rfl, ⟨A, n, c, rfl, hn, hc, hs, hr⟩, fun i u hu => ?_⟩
  rw [hb.cell, Nat.zero_mul]
  simp only [Nat.zero_add]
  simpa using hu
 | succ j => simp at hj
theorem part_le {ts : List PartM} {t : PartM} (h : t ∈ ts) : t.b.length ≤ (bodyB ts).length := by
 induction ts with
 | nil => simp at h
 | cons x r ih =>
  simp only [bodyB, partB, List.length_append, List.length_cons]
  rcases List.mem_cons.1 h with rfl | h
  ·omega
  ·have := ih h
   omega
end Go.Proofs.YtcimkoehcdfjdaaGreatDoor
