/-
  The walk of mudlarkkit's LentParts: parts that are lent, each with marks behind its bytes, and marks behind them all.
-/
import Derived.Laws.Rows
import Derived.Test.YtbbjeokecgnfpaaGreatLentPart
import Derived.Test.YtbbjeokecgnfpaaGreatFrameGetKit
namespace Go.Proofs.YtbbjeokecgnfpaaGreat
open Go.RowKit

/-- a part that is lent, with x marks behind its bytes -/
structure LP where
  t : PartM
  x : Nat
def LPat (w : World) (g : Nat) (p : LP) : Prop := Blk w g 5 ((p.t.b ++ lentTail p.x).map b8).toArray
def lpRow (p : Nat × LP) : List Value := [.int .u8 (p.2.t.tag.toNat : Int), .slice (some ⟨p.1, 0, none⟩) p.2.t.b.length (p.2.t.b.length + p.2.x)]
/-- the parts, and the marks behind them -/
def markLP (j : Nat) : LP := ⟨⟨0, [markB 1 (j : Int)]⟩, 0⟩
def allLP (ts : List PartM) : List LP := ts.map (fun t => ⟨t, 12⟩) ++ (List.range 12).map markLP
theorem allLP_len (ts : List PartM) : (allLP ts).length = ts.length + 12 := by simp [allLP]
theorem allLP_part {ts : List PartM} {k : Nat} {t : PartM} (h : ts[k]? = some t) : (allLP ts)[k]? = some ⟨t, 12⟩ := by
  have hk := (List.getElem?_eq_some_iff.1 h).1
  rw [allLP, List.getElem?_append_left (by simpa using hk), List.getElem?_map, h]
  rfl
theorem allLP_mark {ts : List PartM} {n i : Nat} (hn : ts.length = n) (hi : i < 12) : (allLP ts)[n + i]? = some (markLP i) := by
  rw [allLP, List.getElem?_append_right (by simp [hn]), List.length_map, hn, Nat.add_sub_cancel_left, List.getElem?_map, List.getElem?_range hi]
  rfl

/-- parts that lie in a row of its own -/
structure LPInv (w : World) (o N : Nat) (ps : List (Nat × LP)) (wr : World) : Prop where
  own : wr.ownsRow w.heap.size 45 2 (.slice (some ⟨o, 0, none⟩) ps.length N) ps.length (ps.flatMap lpRow)
  at_ : ∀ p ∈ ps, w.heap.size ≤ p.1 ∧ p.1 < wr.heap.size ∧ p.1 ≠ o ∧ LPat wr p.1 p.2
  below : Below w.heap.size w wr
theorem LPInv.next {w : World} {o N : Nat} {ps : List (Nat × LP)} {wr w1 w2 : World} (h : LPInv w o N ps wr) (hg : Grow wr w1) (hw : w1.grownBy w2 (some o)) (ho : w.heap.size ≤ o) (ho2 : o < wr.heap.size) (p : Nat × LP) (h1 : wr.heap.size ≤ p.1) (h2 : p.1 < w1.heap.size) (hp : LPat w1 p.1 p.2)
    (hown : w2.ownsRow w.heap.size 45 2 (.slice (some ⟨o, 0, none⟩) (ps.length + 1) N) (ps.length + 1) (ps.flatMap lpRow ++ lpRow p)) : LPInv w o N (ps ++ [p]) w2 := by
  have hz := hg.size
  have hz2 := hw.size
  have hbz := h.below.size
  refine ⟨?_, ?_, (h.below.trans (Below.mono hg hbz)).grown hw (by omega) (fun k e => by cases e; exact ho)⟩
  · rw [List.flatMap_append, List.length_append]
    simpa using hown
  · intro q hq
    rcases List.mem_append.1 hq with hq | hq
    · obtain ⟨q1, q2, q3, q4⟩ := h.at_ q hq
      exact ⟨q1, by omega, q3, Blk.grown (Blk.below q4 hg q2) hw (fun e => by cases e; exact q3 rfl)⟩
    · rw [List.mem_singleton] at hq
      subst hq
      exact ⟨by omega, by omega, by omega, Blk.grown hp hw (fun e => by injection e with e; omega)⟩

theorem partTy : AppTy Tryz.prog 22 45 (.agg #[.int .u8 0, .slice none 0 0]) 2 32 := AppTy.mk' Tryz.underlying22 (by kernel_rfl) rfl (by decide)
theorem take_snoc {α : Type} {l : List α} {k : Nat} {x : α} (h : l[k]? = some x) {m : List α} (hm : m = l.take k) : m ++ [x] = l.take (k + 1) := by
  rw [hm, List.take_add_one, h]
  rfl

set_option maxRecDepth 100000 in
set_option maxHeartbeats 2000000 in
theorem LentParts_any (w : World) (B : Nat) (A : Option Addr) (n c : Nat) (ts : List PartM) (hT : PartsAt w B A n ts) (hB : B ≤ w.heap.size) (hn : n ≤ 1000000) (htot : ∀ t ∈ ts, t.b.length ≤ 1000000) :
    Calls Tryz.prog 8 #[.slice A n c] w fun e w' => e = .returned (.slice (some ⟨w.heap.size, 0, none⟩) n (n + 12)) ∧ ∃ ps, ps.map (·.2) = allLP ts ∧ LPInv w w.heap.size (n + 12) ps w' := by
  have Hlen := Lib.hid hT.len
  go_enter Tryz.func8, Tryz.ntmps8
  go_wp2_with (at_make; refine wpList_make_fresh _ rfl _ _ rfl partTy (base := w.heap.size) (n + 12) rfl rfl (by omega) (by omega) (by unfold maxLen; omega) (Nat.le_refl _) ?_; intro w1 hown1 hg1)
  have hI0 : LPInv w w.heap.size (n + 12) [] w1 := ⟨hown1, fun p hp => by simp at hp, (Below.refl _ _).grown hg1 (Nat.le_refl _) (fun k e => by cases e)⟩
  have HI0 := Lib.hid hI0
  have hlt1 : w.heap.size < w1.heap.size := (hown1.lt _ rfl).2
  clear hI0 hown1 hg1
  go_loopw [3, 4] (fun v3 v4 wr => ∃ (k : Nat) (ps : List (Nat × LP)), k ≤ n ∧ v3 = .slice (some ⟨w.heap.size, 0, none⟩) k (n + 12) ∧ v4 = .int .i64 (k : Int) ∧ ps.length = k ∧ Hid (ps.map (·.2) = (allLP ts).take k) ∧ LPInv w w.heap.size (n + 12) ps wr) (fun _ v4 _ => n - (intOf v4).toNat)
  case atStart => exact ⟨0, [], by omega, rfl, rfl, rfl, by simp [Hid], HI0.out⟩
  case round =>
    obtain ⟨k, ps, hk, rfl, rfl, rfl, hps, hI⟩ := hrel
    have hbs := hI.below.size
    have hwz := (hI.own.lt _ rfl).2
    by_cases hlt : ps.length < n
    · obtain ⟨t, ht⟩ : ∃ t, ts[ps.length]? = some t := ⟨_, List.getElem?_eq_getElem (by rw [Hlen.out]; exact hlt)⟩
      obtain ⟨b, off, A1, n1, c1, rfl, hb, hc0, hc1, -, -, -, hr⟩ := (hT.below (Below.mono hI.below hB)).at_ ht
      have hn1 : n1 ≤ 1000000 := by have := htot t (List.mem_of_getElem? ht); rw [hr.len] at this; exact this
      have Hm := Lib.hid (part_range hc0 hc1)
      have Hps2 := Lib.hid (show (ps.map (·.2)) ++ [(⟨t, 12⟩ : LP)] = (allLP ts).take (ps.length + 1) from take_snoc (allLP_part ht) hps.out)
      have Hcall := Lib.hid (LentPart_any wr B t.tag A1 n1 c1 t.b hr (Nat.le_trans hB hbs) hn1)
      have Hn1 := Lib.hid hr.len
      clear ht hc0 hc1 hr
      go_wp2_with (refine wpList_load_mid rfl 45 (.tmp 19) rfl b (off + ps.length * 2) rfl _ _ Hm.out Tryz.underlying45 rfl (by kernel_rfl) ?_)
      refine Hcall.out.mono ?_
      rintro e w2 ⟨g, rfl, hg1, hg2, hl2, hG2⟩
      have hG3 := (hG2.trans (Grow.alloc _ (.cells #[.int .u8 (t.tag.toNat : Int), .slice (some ⟨g, 0, none⟩) n1 (n1 + 12)] 45))).trans (Grow.alloc _ (.cells #[.int .u8 (t.tag.toNat : Int), .slice (some ⟨g, 0, none⟩) n1 (n1 + 12)] 45))
      have hown3 := own_below hI.own hG3
      have hrd3 := ReadsAt.madeS (w2.alloc (.cells #[.int .u8 (t.tag.toNat : Int), .slice (some ⟨g, 0, none⟩) n1 (n1 + 12)] 45)) 45 2 [.int .u8 (t.tag.toNat : Int), .slice (some ⟨g, 0, none⟩) n1 (n1 + 12)] rfl
      rw [World.size_alloc] at hrd3
      have hl3 := (Blk.alloc hl2 (.cells #[.int .u8 (t.tag.toNat : Int), .slice (some ⟨g, 0, none⟩) n1 (n1 + 12)] 45)).alloc (.cells #[.int .u8 (t.tag.toNat : Int), .slice (some ⟨g, 0, none⟩) n1 (n1 + 12)] 45)
      have HG3 := Lib.hid hG3
      have Hown3 := Lib.hid hown3
      have Hrd3 := Lib.hid hrd3
      have Hl3 := Lib.hid hl3
      clear hG3 hown3 hrd3 hl3 hl2 hG2
      go_wp2_with (at_builtin; refine wpList_append_fits_reads _ rfl (.tmp 22) (.tmp 24) rfl partTy rfl Hown3.out rfl Hrd3.out (by simp [Value.oneCell']) (by omega) ?_; intro w4 hown4 hg4)
      go_roundw
      case rel =>
        refine ⟨ps.length + 1, ps ++ [(g, ⟨t, 12⟩)], by omega, rfl, by go_num, by simp, ?_, ?_⟩
        · rw [List.map_append]
          exact Hps2.out
        · exact hI.next HG3.out hg4 (Nat.le_refl _) hwz _ hg1 (by simp; omega) Hl3.out (by simp only [lpRow]; rw [Hn1.out]; exact hown4)
      case measure => simp [intOf]; omega
    · obtain rfl : ps.length = n := by omega
      have HI1 := Lib.hid hI
      clear hI
      go_wp2
      go_loopw [3, 6] (fun v3 v6 wr => ∃ (k : Nat) (qs : List (Nat × LP)), k ≤ 12 ∧ v3 = .slice (some ⟨w.heap.size, 0, none⟩) (ps.length + k) (ps.length + 12) ∧ v6 = .int .i64 (k : Int) ∧ qs.length = ps.length + k ∧ Hid (qs.map (·.2) = (allLP ts).take (ps.length + k)) ∧ LPInv w w.heap.size (ps.length + 12) qs wr) (fun _ v6 _ => 12 - (intOf v6).toNat)
      case atStart => exact ⟨0, ps, by omega, rfl, rfl, rfl, hps, HI1.out⟩
      case round =>
        obtain ⟨k, qs, hk2, rfl, rfl, hqn, hqs, hI⟩ := hrel
        have hbs2 := hI.below.size
        have hwz2 := (hI.own.lt _ rfl).2
        by_cases hlt2 : k < 12
        · have Hqs2 := Lib.hid (show (qs.map (·.2)) ++ [markLP k] = (allLP ts).take (ps.length + k + 1) from take_snoc (allLP_mark Hlen.out hlt2) hqs.out)
          go_wp2_with fail
          refine (markPart_any 1 (k : Int) _ (by omega) (by omega) (by omega) (by omega)).mono ?_
          rintro e w2 ⟨m, rfl, hm1, hm2, hG2⟩
          have hG3 := hG2.trans (Grow.alloc _ (.cells #[.int .u8 0, .slice (some ⟨m, 0, none⟩) 1 1] 45))
          have hown3 := own_below hI.own hG3
          rw [hqn] at hown3
          have hrd3 := ReadsAt.madeS w2 45 2 [.int .u8 0, .slice (some ⟨m, 0, none⟩) 1 1] rfl
          have hl3 := hm2.alloc (.cells #[.int .u8 0, .slice (some ⟨m, 0, none⟩) 1 1] 45)
          have hmz := hm2.lt
          have HG3 := Lib.hid hG3
          have Hown3 := Lib.hid hown3
          have Hrd3 := Lib.hid hrd3
          have Hl3 := Lib.hid hl3
          clear hG3 hown3 hrd3 hl3 hm2 hG2
          go_wp2_with (at_builtin; refine wpList_append_fits_reads _ rfl (.tmp 30) (.tmp 33) rfl partTy rfl Hown3.out rfl Hrd3.out (by simp [Value.oneCell']) (by omega) ?_; intro w4 hown4 hg4)
          go_roundw
          case rel =>
            refine ⟨k + 1, qs ++ [(m, markLP k)], by omega, rfl, by go_num, by simp [hqn, Nat.add_assoc], ?_, ?_⟩
            · rw [List.map_append]
              exact Hqs2.out
            · exact hI.next HG3.out hg4 (Nat.le_refl _) hwz2 _ hm1 (by simp; omega) Hl3.out (by rw [hqn]; exact hown4)
          case measure => simp [intOf]; omega
        · obtain rfl : k = 12 := by omega
          have hd1 : decide ((ps.length : Int) ≤ ((ps.length + 12 : Nat) : Int)) = true := decide_eq_true (by omega)
          go_wp2
          go_ret
          exact ⟨rfl, qs, by rw [hqs.out, List.take_of_length_le (by rw [allLP_len, Hlen.out]; exact Nat.le_refl _)], hI⟩
end Go.Proofs.YtbbjeokecgnfpaaGreat
