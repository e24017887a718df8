/-
  The walks of mudlarkkit's LentInts and KeptInts.
  The walks of mudlarkkit's LentShardRef, markShardRef, LentShardRefs: shards that are lent, each with marks behind its dead numbers, and marks behind them all.
  The walks of mudlarkkit's KeptShardRef and KeptShardRefs; what lent shards read as.
  The walks of mudlarkkit's LentManifest and KeptManifest.
-/
import Derived.Test.YtcimkoehcdfjdaaGreatDoorBaseB
import Derived.Test.YtcimkoehcdfjdaaGreatDoorBaseC
import Derived.Laws.Rows
import Derived.Test.YtcimkoehcdfjdaaGreatDoorManiBase
import Derived.Test.YtcimkoehcdfjdaaGreatDoorFGetAll
import Derived.Test.YtcimkoehcdfjdaaGreatDoorBaseE
namespace Go.Proofs.YtcimkoehcdfjdaaGreatDoor
open Go.RowKit
set_option linter.unusedVariables false

theorem i64v_one : ∀ (l : List Int), ∀ u ∈ l.map i64v, u.oneCell' = true := fun l u hu => by
 obtain ⟨x, _, rfl⟩ := List.mem_map.1 hu
 rfl
def lentTailI (i : Nat) : List Int := (List.range i).map fun j : Nat => markI 1 (j : Int)
theorem lentTailI_succ (i : Nat) : lentTailI (i + 1) = lentTailI i ++ [markI 1 (i : Int)] := by simp [lentTailI, List.range_succ]
theorem lentTailI_get (i j : Nat) (h : j < i) : (lentTailI i)[j]? = some (markI 1 (j : Int)) := by simp [lentTailI, h]

def LentIntsAt (w : World) (g : Nat) (l : List Int) : Prop := Blk w g 3 ((l ++ lentTailI 12).map i64v).toArray

structure LentIntsInv (w : World) (g n : Nat) (l : List Int) (i : Nat) (wr : World) : Prop where
 own : wr.ownsRow w.heap.size 3 1 (.slice (some ⟨g, 0, none⟩) (n + i) (n + 12)) (n + i) ((l ++ lentTailI i).map i64v)
 below : Below w.heap.size w wr

set_option maxRecDepth 100000 in
set_option maxHeartbeats 1000000 in
theorem LentInts_any (w : World) (B : Nat) (A : Option Addr) (n c : Nat) (l : List Int) (hR : IntsAt w B A n l) (hB : B ≤ w.heap.size) (hn : n ≤ 1000000) :
  Calls Tryz.prog 109 #[.slice A n c] w fun e w' => e = .returned (.slice (some ⟨w.heap.size, 0, none⟩) n (n + 12)) ∧ LentIntsAt w' w.heap.size l ∧ Below w.heap.size w w' := by
 have intsTy : AppTy Tryz.prog 49 3 (.int .i64 0) 1 8 := AppTy.mk' Tryz.underlying49 (by kernel_rfl) rfl (by decide)
 have hln := Lib.hid hR.len
 go_enter Tryz.func109, Tryz.ntmps109
 go_wp2_with (first | (at_make; refine wpList_make_fresh _ rfl _ _ rfl intsTy (base := w.heap.size) (n + 12) rfl rfl (by omega) (by omega) (by unfold maxLen; omega) (Nat.le_refl _) ?_; intro w1 hown1 hg1; have hb1 : Below w.heap.size w w1 := (Below.refl _ _).grown hg1 (Nat.le_refl _) (fun k e => by cases e)) | (at_builtin; refine wpList_append_fits_reads _ rfl (.tmp 9) (.tmp 10) rfl intsTy rfl hown1 rfl (hR.below (hb1.mono hB)) (i64v_one l) (by omega) ?_; intro w2 hown2 hg2; have hb2 : Below w.heap.size w w2 := hb1.grown hg2 hb1.size (fun k e => by cases e; exact Nat.le_refl _)))
 have hI : LentIntsInv w w.heap.size n l 0 w2 := ⟨by simpa [lentTailI] using hown2, hb2⟩
 clear hown1 hg1 hb1 hown2 hg2 hb2
 go_loopw [3, 4] (fun v3 v4 wr => ∃ i : Nat, i ≤ 12 ∧ v4 = .int .i64 (i : Int) ∧ v3 = .slice (some ⟨w.heap.size, 0, none⟩) (n + i) (n + 12) ∧ LentIntsInv w w.heap.size n l i wr) (fun _ v4 _ => 12 - (intOf v4).toNat)
 case atStart => exact ⟨0, by omega, rfl, by simp, hI⟩
 case round =>
  clear hI
  obtain ⟨i, hi, rfl, rfl, hI⟩ := hrel
  by_cases hlt : i < 12
  ·go_wp2_with fail
   refine (mark_any 1 (i : Int) _ (by omega) (by omega) (by omega) (by omega)).mono ?_
   rintro e w1 ⟨rfl, rfl⟩
   go_wp2_with (at_builtin; refine wpList_append_fits_reads _ rfl (.tmp 16) (.tmp 19) rfl intsTy rfl (hI.own.alloc _) rfl (ReadsAt.made1 _ _ _) (by simp [Value.oneCell']) (by omega) ?_; intro w2 hown hg)
   go_roundw
   case rel =>
    refine ⟨i + 1, by omega, by go_num, by rw [Nat.add_assoc], ?_, ?_⟩
    ·rw [lentTailI_succ, ← List.append_assoc, List.map_append, ← Nat.add_assoc]
     exact hown
    ·exact (hI.below.alloc hI.below.size _).grown hg (by have := hI.below.size; simp; omega) (fun k e => by cases e; exact Nat.le_refl _)
   case measure => simp [intOf]; omega
  ·obtain rfl : i = 12 := by omega
   go_wp2
   go_ret
   exact ⟨rfl, own_full hI.own, hI.below⟩

theorem Blk.intv {w : World} {g t : Nat} {xs : List Int} (h : Blk w g t (xs.map i64v).toArray) (i : Nat) (x : Int) (hx : xs[i]? = some x) : w.cell? ⟨g, i, none⟩ = some (.int .i64 x) := by
 rw [h.cell]
 simp [hx, i64v]
theorem lentI_get1 (l : List Int) (i : Nat) (x : Int) (h : l[i]? = some x) : (l ++ lentTailI 12)[i]? = some x := by
 rw [List.getElem?_append_left (List.getElem?_eq_some_iff.1 h).1]; exact h
theorem lentI_get2 (l : List Int) (i n : Nat) (hn : l.length = n) (h1 : n ≤ i) (h2 : i < n + 12) : (l ++ lentTailI 12)[i]? = some (markI 1 ((i : Int) - (n : Int))) := by
 rw [List.getElem?_append_right (by omega), lentTailI_get _ _ (by omega), hn]
 congr 2
 omega

set_option maxRecDepth 100000 in
set_option maxHeartbeats 1000000 in
theorem KeptInts_yes (w : World) (B g : Nat) (A : Option Addr) (n c : Nat) (l : List Int) (hL : LentIntsAt w g l) (hR : IntsAt w B A n l) (hn : n ≤ 1000000) :
  Calls Tryz.prog 116 #[.slice (some ⟨g, 0, none⟩) n (n + 12), .slice A n c] w fun e w' => e = .returned (.bool true) ∧ ∃ q, w.drewN q = w' := by
 have hnb : ((n : Int) == (n : Int)) = true := by simp
 have hln := Lib.hid hR.len
 go_enter Tryz.func116, Tryz.ntmps116
 go_wp2
 go_loopw [6] (fun v6 wr => ∃ k q : Nat, k ≤ n + 12 ∧ v6 = .int .i64 (k : Int) ∧ w.drewN q = wr) (fun v6 _ => n + 12 - (intOf v6).toNat)
 case atStart => exact ⟨0, 0, by omega, rfl, rfl⟩
 case round =>
  obtain ⟨k, q, hk, rfl, rfl⟩ := hrel
  by_cases hlt : k < n + 12
  ·by_cases hkn : k < n
   ·obtain ⟨b, off, rfl, hb, hcl⟩ := hR.at_ (by omega)
    obtain ⟨x, hx⟩ : ∃ x, l[k]? = some x := ⟨_, List.getElem?_eq_getElem (by rw [hln.out]; exact hkn)⟩
    have hcx := hcl k x hx
    have hcg := hL.intv k x (lentI_get1 l k x hx)
    have hne : (x == x) = true := by simp
    have hg1 : decide (k < n) = true := by simpa using hkn
    have hg2 : decide (n ≤ k) = false := by simpa using hkn
    clear hcl hx
    go_wp2_with fail
    go_quiet (fail)
    go_wp2
    go_roundw
    case rel => exact ⟨k + 1, _, by omega, by go_num, rfl⟩
    case measure => simp [intOf]; omega
   ·have hcg := hL.intv k _ (lentI_get2 l k n hln.out (by omega) hlt)
    have hcm := fun W => mark_any 1 ((k : Int) - (n : Int)) W (by omega) (by omega) (by omega) (by omega)
    have Hcm := Lib.hid hcm
    clear hcm
    have e1 : IntKind.i64.wrap ((k : Int) - (n : Int)) = (k : Int) - (n : Int) := IntWalk.i64_in _ (by omega)
    generalize markB 1 ((k : Int) - (n : Int)) = x at *
    have hne : (x == x) = true := by simp
    have hg1 : decide (k < n) = false := by simpa using hkn
    have hg2 : decide (n ≤ k) = true := by simpa using hkn
    go_wp2_with fail
    go_quiet ((go_at_call 91; exact quiet_add_left (Hcm.out _)))
    go_wp2
    go_roundw
    case rel => exact ⟨k + 1, _, by omega, by go_num, rfl⟩
    case measure => simp [intOf]; omega
  ·obtain rfl : k = n + 12 := by omega
   go_wp2
   go_ret
   exact ⟨rfl, _, rfl⟩
theorem LentIntsAt.below {w w' : World} {g B : Nat} {l : List Int} (h : LentIntsAt w g l) (hb : Below B w w') (hg : g < B) : LentIntsAt w' g l := Blk.below h hb hg
theorem LentIntsAt.ints {w : World} {g B : Nat} {l : List Int} (h : LentIntsAt w g l) (hg : g < B) : IntsAt w B (some ⟨g, 0, none⟩) l.length l :=
 ⟨by simp, fun _ => ⟨g, 0, rfl, hg, fun j u hu => by
  rw [List.getElem?_map] at hu
  cases hx : l[j]? with
  | none => rw [hx] at hu; cases hu
  | some x =>
   rw [hx] at hu
   cases hu
   have := h.intv j x (lentI_get1 l j x hx)
   simpa [i64v] using this⟩⟩
end Go.Proofs.YtcimkoehcdfjdaaGreatDoor

namespace Go.Proofs.YtcimkoehcdfjdaaGreatDoor
open Go.RowKit WireM
set_option linter.unusedVariables false

set_option maxRecDepth 100000 in
set_option maxHeartbeats 1000000 in
theorem LentShardRef_any (w : World) (B : Nat) (s : ShardM) (A : Option Addr) (n c : Nat) (hR : IntsAt w B A n s.dead) (hB : B ≤ w.heap.size) (hn : n ≤ 1000000) :
  Calls Tryz.prog 59 #[.agg #[.int .i64 s.num, .int .i64 s.size, .int .u32 (s.sum.toNat : Int), .slice A n c]] w fun e w' => ∃ g, e = .returned (.agg #[.int .i64 s.num, .int .i64 s.size, .int .u32 (s.sum.toNat : Int), .slice (some ⟨g, 0, none⟩) n (n + 12)]) ∧ w.heap.size ≤ g ∧ g < w'.heap.size ∧ LentIntsAt w' g s.dead ∧ Grow w w' := by
 have hG0 : Grow w ((w.alloc (.cells #[.int .i64 s.num, .int .i64 s.size, .int .u32 (s.sum.toNat : Int), .slice A n c] 52)).alloc (.cells #[.int .i64 0, .int .i64 0, .int .u32 0, .slice none 0 0] 52)) := (Grow.alloc _ _).trans (Grow.alloc _ _)
 have hR0 := (hR.below (Below.mono hG0 hB))
 have hz0 : ((w.alloc (.cells #[.int .i64 s.num, .int .i64 s.size, .int .u32 (s.sum.toNat : Int), .slice A n c] 52)).alloc (.cells #[.int .i64 0, .int .i64 0, .int .u32 0, .slice none 0 0] 52)).heap.size = w.heap.size + 1 + 1 := by simp
 have hP0 := (Blk.new w 52 #[.int .i64 s.num, .int .i64 s.size, .int .u32 (s.sum.toNat : Int), .slice A n c]).alloc (.cells #[.int .i64 0, .int .i64 0, .int .u32 0, .slice none 0 0] 52)
 have hQ0 : Blk ((w.alloc (.cells #[.int .i64 s.num, .int .i64 s.size, .int .u32 (s.sum.toNat : Int), .slice A n c] 52)).alloc (.cells #[.int .i64 0, .int .i64 0, .int .u32 0, .slice none 0 0] 52)) (w.heap.size + 1) 52 #[.int .i64 0, .int .i64 0, .int .u32 0, .slice none 0 0] := by
  have h := Blk.new (w.alloc (.cells #[.int .i64 s.num, .int .i64 s.size, .int .u32 (s.sum.toNat : Int), .slice A n c] 52)) 52 #[.int .i64 0, .int .i64 0, .int .u32 0, .slice none 0 0]
  simpa using h
 have Hz0 := Lib.hid hz0
 have hlent := LentInts_any _ B A n c s.dead hR0 (by omega) (by omega)
 rw [hz0] at hlent
 have Hlent := Lib.hid hlent
 clear hz0 hlent
 go_enter Tryz.func59, Tryz.ntmps59
 go_wp2_with fail
 refine Hlent.out.mono ?_
 rintro e w1 ⟨rfl, hL1, hb1⟩
 have hG1 : Grow w w1 := Below.trans hG0 (Below.mono hb1 (by omega))
 have hP1 := hP0.below hb1 (by omega)
 have hQ1 := hQ0.below hb1 (by omega)
 have hlt := hL1.lt
 have hcP0 := hP1.cell 0
 have hcP1 := hP1.cell 1
 have hcP2 := hP1.cell 2
 have hcP3 := hP1.cell 3
 have hfP3 := hP1.frozen 3
 have hcQ0 := hQ1.cell 0
 have hfQ0 := hQ1.frozen 0
 have hcQ1 := hQ1.cell 1
 have hfQ1 := hQ1.frozen 1
 have hcQ2 := hQ1.cell 2
 have hfQ2 := hQ1.frozen 2
 have hcQ3 := hQ1.cell 3
 have hfQ3 := hQ1.frozen 3
 have HL1 := Lib.hid hL1
 clear hL1 hb1 hR0
 go_wp2_with fail
 have hQ2 := ((((hQ1.far (p := ⟨w.heap.size, 3, none⟩) (by simp) (.slice (some ⟨w.heap.size + 1 + 1, 0, none⟩) n (n + 12))).set 0 (.int .i64 s.num)).set 1 (.int .i64 s.size)).set 2 (.int .u32 (s.sum.toNat : Int))).set 3 (.slice (some ⟨w.heap.size + 1 + 1, 0, none⟩) n (n + 12))
 refine bodyPost_ret (results_cell_row rfl _ _ (w.heap.size + 1) 52 _ (0, 0) _ rfl hQ2 Tryz.underlying52 rfl (by kernel_rfl)) rfl ⟨w.heap.size + 1 + 1, rfl, by omega, by simp only [size_setCell]; omega, ?_, ?_⟩
 ·exact ((((Blk.far HL1.out (p := ⟨w.heap.size, 3, none⟩) (by show w.heap.size + 1 + 1 ≠ w.heap.size; omega) _).far (p := ⟨w.heap.size + 1, 0, none⟩) (by show w.heap.size + 1 + 1 ≠ w.heap.size + 1; omega) _).far (p := ⟨w.heap.size + 1, 1, none⟩) (by show w.heap.size + 1 + 1 ≠ w.heap.size + 1; omega) _).far (p := ⟨w.heap.size + 1, 2, none⟩) (by show w.heap.size + 1 + 1 ≠ w.heap.size + 1; omega) _).far (p := ⟨w.heap.size + 1, 3, none⟩) (by show w.heap.size + 1 + 1 ≠ w.heap.size + 1; omega) _
 ·exact Below.setCell (Below.setCell (Below.setCell (Below.setCell (Below.setCell hG1 (Nat.le_refl _) _) (Nat.le_succ _) _) (Nat.le_succ _) _) (Nat.le_succ _) _) (Nat.le_succ _) _

set_option maxRecDepth 100000 in
theorem markShardRef_any (k i : Int) (w : World) (hk : 0 ≤ k) (hk2 : k ≤ 1000000) (hi : 0 ≤ i) (hi2 : i ≤ 1000000000) :
  Calls Tryz.prog 60 #[.int .i64 k, .int .i64 i] w fun e w' => e = .returned (.agg #[.int .i64 (markI k i), .int .i64 0, .int .u32 0, .slice none 0 0]) ∧ Grow w w' := by
 go_enter Tryz.func60, Tryz.ntmps60
 go_wp2_with fail
 refine (mark_any k i _ hk (by omega) hi (by omega)).mono ?_
 rintro e w1 ⟨rfl, rfl⟩
 go_wp2_with fail
 have hPf : Blk (w.alloc (.cells #[.int .i64 (markI k i), .int .i64 0, .int .u32 0, .slice none 0 0] 52)) w.heap.size 52 #[.int .i64 (markI k i), .int .i64 0, .int .u32 0, .slice none 0 0] := Blk.new _ _ _
 exact bodyPost_ret (results_cell_row rfl _ _ w.heap.size 52 _ (0, 0) _ rfl hPf Tryz.underlying52 rfl (by kernel_rfl)) rfl ⟨rfl, Grow.alloc _ _⟩

structure LS where
 t : ShardM
 m : Bool
def deadV (g : Nat) (p : LS) : Value := if p.m then .slice none 0 0 else .slice (some ⟨g, 0, none⟩) p.t.dead.length (p.t.dead.length + 12)
def lsRow (p : Nat × LS) : List Value := [.int .i64 p.2.t.num, .int .i64 p.2.t.size, .int .u32 (p.2.t.sum.toNat : Int), deadV p.1 p.2]
def markLS (j : Nat) : LS := ⟨⟨markI 1 (j : Int), 0, 0, []⟩, true⟩
def allLS (ts : List ShardM) : List LS := ts.map (fun t => ⟨t, false⟩) ++ (List.range 12).map markLS
theorem allLS_len (ts : List ShardM) : (allLS ts).length = ts.length + 12 := by simp [allLS]
theorem allLS_shard {ts : List ShardM} {k : Nat} {t : ShardM} (h : ts[k]? = some t) : (allLS ts)[k]? = some ⟨t, false⟩ := by
 have hk := (List.getElem?_eq_some_iff.1 h).1
 rw [allLS, List.getElem?_append_left (by simpa using hk), List.getElem?_map, h]
 rfl
theorem allLS_mark {ts : List ShardM} {n i : Nat} (hn : ts.length = n) (hi : i < 12) : (allLS ts)[n + i]? = some (markLS i) := by
 rw [allLS, List.getElem?_append_right (by simp [hn]), List.length_map, hn, Nat.add_sub_cancel_left, List.getElem?_map, List.getElem?_range hi]
 rfl

structure LSInv (w : World) (o N : Nat) (ps : List (Nat × LS)) (wr : World) : Prop where
 own : wr.ownsRow w.heap.size 52 4 (.slice (some ⟨o, 0, none⟩) ps.length N) ps.length (ps.flatMap lsRow)
 at_ : ∀ p ∈ ps, p.2.m = false → w.heap.size ≤ p.1 ∧ p.1 < wr.heap.size ∧ p.1 ≠ o ∧ LentIntsAt wr p.1 p.2.t.dead
 below : Below w.heap.size w wr
theorem LSInv.next {w : World} {o N : Nat} {ps : List (Nat × LS)} {wr w1 w2 : World} (h : LSInv w o N ps wr) (hg : Grow wr w1) (hw : w1.grownBy w2 (some o)) (ho : w.heap.size ≤ o) (ho2 : o < wr.heap.size) (p : Nat × LS) (hp : p.2.m = false → wr.heap.size ≤ p.1 ∧ p.1 < w1.heap.size ∧ LentIntsAt w1 p.1 p.2.t.dead)
  (hown : w2.ownsRow w.heap.size 52 4 (.slice (some ⟨o, 0, none⟩) (ps.length + 1) N) (ps.length + 1) (ps.flatMap lsRow ++ lsRow p)) : LSInv w o N (ps ++ [p]) w2 := by
 have hz := hg.size
 have hz2 := hw.size
 have hbz := h.below.size
 refine ⟨?_, ?_, (h.below.trans (Below.mono hg hbz)).grown hw (by omega) (fun k e => by cases e; exact ho)⟩
 ·rw [List.flatMap_append, List.length_append]
  simpa using hown
 ·intro q hq hqm
  rcases List.mem_append.1 hq with hq | hq
  ·obtain ⟨q1, q2, q3, q4⟩ := h.at_ q hq hqm
   exact ⟨q1, by omega, q3, Blk.grown (Blk.below q4 hg q2) hw (fun e => by cases e; exact q3 rfl)⟩
  ·rw [List.mem_singleton] at hq
   subst hq
   obtain ⟨h1, h2, h3⟩ := hp hqm
   exact ⟨by omega, by omega, by omega, Blk.grown h3 hw (fun e => by injection e with e; omega)⟩

theorem shardTyR : AppTy Tryz.prog 22 52 (.agg #[.int .i64 0, .int .i64 0, .int .u32 0, .slice none 0 0]) 4 48 := AppTy.mk' Tryz.underlying22 (by kernel_rfl) rfl (by decide)
theorem take_snocS {α : Type} {l : List α} {k : Nat} {x : α} (h : l[k]? = some x) {m : List α} (hm : m = l.take k) : m ++ [x] = l.take (k + 1) := by
 rw [hm, List.take_add_one, h]
 rfl

set_option maxRecDepth 100000 in
set_option maxHeartbeats 2000000 in
theorem LentShardRefs_any (w : World) (B : Nat) (A : Option Addr) (n c : Nat) (ts : List ShardM) (hT : ShardsAt w B A n ts) (hB : B ≤ w.heap.size) (hn : n ≤ 1000000) (htot : ∀ t ∈ ts, t.dead.length ≤ 1000000) :
  Calls Tryz.prog 31 #[.slice A n c] w fun e w' => e = .returned (.slice (some ⟨w.heap.size, 0, none⟩) n (n + 12)) ∧ ∃ ps, ps.map (·.2) = allLS ts ∧ LSInv w w.heap.size (n + 12) ps w' := by
 have Hlen := Lib.hid hT.len
 go_enter Tryz.func31, Tryz.ntmps31
 go_wp2_with (at_make; refine wpList_make_fresh _ rfl _ _ rfl shardTyR (base := w.heap.size) (n + 12) rfl rfl (by omega) (by omega) (by unfold maxLen; omega) (Nat.le_refl _) ?_; intro w1 hown1 hg1)
 have hI0 : LSInv w w.heap.size (n + 12) [] w1 := ⟨hown1, fun p hp => by simp at hp, (Below.refl _ _).grown hg1 (Nat.le_refl _) (fun k e => by cases e)⟩
 have HI0 := Lib.hid hI0
 have hlt1 : w.heap.size < w1.heap.size := (hown1.lt _ rfl).2
 clear hI0 hown1 hg1
 go_loopw [3, 4] (fun v3 v4 wr => ∃ (k : Nat) (ps : List (Nat × LS)), k ≤ n ∧ v3 = .slice (some ⟨w.heap.size, 0, none⟩) k (n + 12) ∧ v4 = .int .i64 (k : Int) ∧ ps.length = k ∧ Hid (ps.map (·.2) = (allLS ts).take k) ∧ LSInv w w.heap.size (n + 12) ps wr) (fun _ v4 _ => n - (intOf v4).toNat)
 case atStart => exact ⟨0, [], by omega, rfl, rfl, rfl, by simp [Hid], HI0.out⟩
 case round =>
  obtain ⟨k, ps, hk, rfl, rfl, rfl, hps, hI⟩ := hrel
  have hbs := hI.below.size
  have hwz := (hI.own.lt _ rfl).2
  by_cases hlt : ps.length < n
  ·obtain ⟨t, ht⟩ : ∃ t, ts[ps.length]? = some t := ⟨_, List.getElem?_eq_getElem (by rw [Hlen.out]; exact hlt)⟩
   obtain ⟨b, off, A1, n1, c1, rfl, hb, hc0, hc1, hc2, hc3, -, -, -, hr, -⟩ := (hT.below (Below.mono hI.below hB)).at_ ht
   have hn1 : n1 ≤ 1000000 := by have := htot t (List.mem_of_getElem? ht); rw [hr.len] at this; exact this
   have Hm := Lib.hid (shard_range hc0 hc1 hc2 hc3)
   have Hps2 := Lib.hid (show (ps.map (·.2)) ++ [(⟨t, false⟩ : LS)] = (allLS ts).take (ps.length + 1) from take_snocS (allLS_shard ht) hps.out)
   have Hcall := Lib.hid (LentShardRef_any wr B t A1 n1 c1 hr (Nat.le_trans hB hbs) hn1)
   have Hn1 := Lib.hid hr.len
   clear ht hc0 hc1 hc2 hc3 hr
   go_wp2_with (refine wpList_load_mid rfl 52 (.tmp 19) rfl b (off + ps.length * 4) rfl _ _ Hm.out Tryz.underlying52 rfl (by kernel_rfl) ?_)
   refine Hcall.out.mono ?_
   rintro e w2 ⟨g, rfl, hg1, hg2, hl2, hG2⟩
   have hG3 := (hG2.trans (Grow.alloc _ (.cells #[.int .i64 t.num, .int .i64 t.size, .int .u32 (t.sum.toNat : Int), .slice (some ⟨g, 0, none⟩) n1 (n1 + 12)] 52))).trans (Grow.alloc _ (.cells #[.int .i64 t.num, .int .i64 t.size, .int .u32 (t.sum.toNat : Int), .slice (some ⟨g, 0, none⟩) n1 (n1 + 12)] 52))
   have hown3 := own_below hI.own hG3
   have hrd3 := ReadsAt.madeS (w2.alloc (.cells #[.int .i64 t.num, .int .i64 t.size, .int .u32 (t.sum.toNat : Int), .slice (some ⟨g, 0, none⟩) n1 (n1 + 12)] 52)) 52 4 [.int .i64 t.num, .int .i64 t.size, .int .u32 (t.sum.toNat : Int), .slice (some ⟨g, 0, none⟩) n1 (n1 + 12)] rfl
   rw [World.size_alloc] at hrd3
   have hl3 := (Blk.alloc hl2 (.cells #[.int .i64 t.num, .int .i64 t.size, .int .u32 (t.sum.toNat : Int), .slice (some ⟨g, 0, none⟩) n1 (n1 + 12)] 52)).alloc (.cells #[.int .i64 t.num, .int .i64 t.size, .int .u32 (t.sum.toNat : Int), .slice (some ⟨g, 0, none⟩) n1 (n1 + 12)] 52)
   have HG3 := Lib.hid hG3
   have Hown3 := Lib.hid hown3
   have Hrd3 := Lib.hid hrd3
   have Hl3 := Lib.hid hl3
   clear hG3 hown3 hrd3 hl3 hl2 hG2
   go_wp2_with (at_builtin; refine wpList_append_fits_reads _ rfl (.tmp 22) (.tmp 24) rfl shardTyR rfl Hown3.out rfl Hrd3.out (by simp [Value.oneCell']) (by omega) ?_; intro w4 hown4 hg4)
   go_roundw
   case rel =>
    refine ⟨ps.length + 1, ps ++ [(g, ⟨t, false⟩)], by omega, rfl, by go_num, by simp, ?_, ?_⟩
    ·rw [List.map_append]
     exact Hps2.out
    ·exact hI.next HG3.out hg4 (Nat.le_refl _) hwz _ (fun _ => ⟨hg1, by simp; omega, Hl3.out⟩) (by simp only [lsRow, deadV, Bool.false_eq_true, if_false]; rw [Hn1.out]; exact hown4)
   case measure => simp [intOf]; omega
  ·obtain rfl : ps.length = n := by omega
   have HI1 := Lib.hid hI
   clear hI
   go_wp2
   go_loopw [3, 6] (fun v3 v6 wr => ∃ (k : Nat) (qs : List (Nat × LS)), k ≤ 12 ∧ v3 = .slice (some ⟨w.heap.size, 0, none⟩) (ps.length + k) (ps.length + 12) ∧ v6 = .int .i64 (k : Int) ∧ qs.length = ps.length + k ∧ Hid (qs.map (·.2) = (allLS ts).take (ps.length + k)) ∧ LSInv w w.heap.size (ps.length + 12) qs wr) (fun _ v6 _ => 12 - (intOf v6).toNat)
   case atStart => exact ⟨0, ps, by omega, rfl, rfl, rfl, hps, HI1.out⟩
   case round =>
    obtain ⟨k, qs, hk2, rfl, rfl, hqn, hqs, hI⟩ := hrel
    have hbs2 := hI.below.size
    have hwz2 := (hI.own.lt _ rfl).2
    by_cases hlt2 : k < 12
    ·have Hqs2 := Lib.hid (show (qs.map (·.2)) ++ [markLS k] = (allLS ts).take (ps.length + k + 1) from take_snocS (allLS_mark Hlen.out hlt2) hqs.out)
     go_wp2_with fail
     refine (markShardRef_any 1 (k : Int) _ (by omega) (by omega) (by omega) (by omega)).mono ?_
     rintro e w2 ⟨rfl, hG2⟩
     have hG3 := hG2.trans (Grow.alloc _ (.cells #[.int .i64 (markI 1 (k : Int)), .int .i64 0, .int .u32 0, .slice none 0 0] 52))
     have hown3 := own_below hI.own hG3
     rw [hqn] at hown3
     have hrd3 := ReadsAt.madeS w2 52 4 [.int .i64 (markI 1 (k : Int)), .int .i64 0, .int .u32 0, .slice none 0 0] rfl
     have HG3 := Lib.hid hG3
     have Hown3 := Lib.hid hown3
     have Hrd3 := Lib.hid hrd3
     clear hG3 hown3 hrd3 hG2
     go_wp2_with (at_builtin; refine wpList_append_fits_reads _ rfl (.tmp 30) (.tmp 33) rfl shardTyR rfl Hown3.out rfl Hrd3.out (by simp [Value.oneCell']) (by omega) ?_; intro w4 hown4 hg4)
     go_roundw
     case rel =>
      refine ⟨k + 1, qs ++ [(0, markLS k)], by omega, rfl, by go_num, by simp [hqn, Nat.add_assoc], ?_, ?_⟩
      ·rw [List.map_append]
       exact Hqs2.out
      ·exact hI.next HG3.out hg4 (Nat.le_refl _) hwz2 _ (fun e => by cases e) (by rw [hqn]; exact hown4)
     case measure => simp [intOf]; omega
    ·obtain rfl : k = 12 := by omega
     have hd1 : decide ((ps.length : Int) ≤ ((ps.length + 12 : Nat) : Int)) = true := decide_eq_true (by omega)
     go_wp2
     go_ret
     exact ⟨rfl, qs, by rw [hqs.out, List.take_of_length_le (by rw [allLS_len, Hlen.out]; exact Nat.le_refl _)], hI⟩
end Go.Proofs.YtcimkoehcdfjdaaGreatDoor

namespace Go.Proofs.YtcimkoehcdfjdaaGreatDoor
open Go.RowKit WireM
set_option linter.unusedVariables false

theorem sameShard_self (s : ShardM) : sameShardB s s = true := sameShardB_iff.2 rfl
structure LSAt (w : World) (B o oo : Nat) (ps : List (Nat × LS)) : Prop where
 lt : o < B
 at_ : ∀ (j : Nat) (p : Nat × LS), ps[j]? = some p → w.rangeAt o (oo + j * 4) (lsRow p) ∧ (p.2.m = false → p.1 < B ∧ LentIntsAt w p.1 p.2.t.dead)
theorem LSAt.below {w w' : World} {B o oo : Nat} {ps : List (Nat × LS)} (h : LSAt w B o oo ps) (hb : Below B w w') : LSAt w' B o oo ps :=
 ⟨h.lt, fun j p hp => by
  obtain ⟨h2, h3⟩ := h.at_ j p hp
  exact ⟨fun i v hv => (hb.cell (p := ⟨o, oo + j * 4 + i, none⟩) h.lt).trans (h2 i v hv), fun hm => ⟨(h3 hm).1, Blk.below (h3 hm).2 hb (h3 hm).1⟩⟩⟩
theorem flat_four (ps : List (Nat × LS)) : ∀ (j i : Nat) (p : Nat × LS) (v : Value), ps[j]? = some p → (lsRow p)[i]? = some v → (ps.flatMap lsRow)[j * 4 + i]? = some v := by
 induction ps with
 | nil => intro j i p v h; simp at h
 | cons a r ih =>
  intro j i p v h hv
  rw [List.flatMap_cons]
  cases j with
  | zero =>
   simp only [List.getElem?_cons_zero, Option.some.injEq] at h
   subst h
   rw [Nat.zero_mul, Nat.zero_add, List.getElem?_append_left (List.getElem?_eq_some_iff.1 hv).1]
   exact hv
  | succ j =>
   rw [List.getElem?_append_right (by simp only [lsRow, List.length_cons, List.length_nil]; omega), show (j + 1) * 4 + i - (lsRow a).length = j * 4 + i by simp only [lsRow, List.length_cons, List.length_nil]; omega]
   exact ih j i p v (by simpa using h) hv
theorem LSInv.ls {w wr : World} {o N : Nat} {ps : List (Nat × LS)} (h : LSInv w o N ps wr) : LSAt wr wr.heap.size o 0 ps :=
 ⟨(h.own.lt _ rfl).2, fun j p hp => by
  refine ⟨fun i v hv => ?_, fun hm => ?_⟩
  ·have hv2 := flat_four ps j i p v hp hv
   have hl := (List.getElem?_eq_some_iff.1 hv2).1
   rw [Nat.zero_add, h.own.cellAt _ (by rw [← h.own.1]; exact hl)]
   exact hv2
  ·obtain ⟨h1, h2, h3, h4⟩ := h.at_ p (List.mem_of_getElem? hp) hm
   exact ⟨h2, h4⟩⟩
theorem LSAt.shards {w : World} {B o oo n : Nat} {ps : List (Nat × LS)} {ts : List ShardM} (h : LSAt w B o oo ps) (hps : ps.map (·.2) = allLS ts) (hn : ts.length = n) (htot : ∀ t ∈ ts, t.dead.length ≤ 1000000) (hw : ∀ t ∈ ts, Wide64 t.num ∧ Wide64 t.size ∧ ∀ x ∈ t.dead, Wide64 x) : ShardsAt w B (some ⟨o, oo, none⟩) n ts :=
 ⟨hn, fun _ => ⟨o, oo, rfl, h.lt, fun j t ht => by
  have e := allLS_shard ht
  rw [← hps, List.getElem?_map] at e
  obtain ⟨p, hp, hp2⟩ := Option.map_eq_some_iff.1 e
  obtain ⟨h2, h3⟩ := h.at_ j p hp
  have hm : p.2.m = false := by rw [hp2]
  obtain ⟨h4, h5⟩ := h3 hm
  have hb := LentIntsAt.ints h5 h4
  have htm := List.mem_of_getElem? ht
  have hl := htot t htm
  rw [lsRow, hp2] at h2
  rw [hp2] at hb
  simp only [deadV, Bool.false_eq_true, if_false] at h2
  exact ⟨[.int .i64 t.num, .int .i64 t.size, .int .u32 (t.sum.toNat : Int), .slice (some ⟨p.1, 0, none⟩) t.dead.length (t.dead.length + 12)], rfl, ⟨some ⟨p.1, 0, none⟩, t.dead.length, t.dead.length + 12, rfl, by omega, by unfold maxLen; omega, by omega, hb, hw t htm⟩, fun i v hv => h2 i v hv⟩⟩⟩

def mkWs (x : Int) : List Value → World → Prop
 | [], _ => True
 | v :: _, _ => v = .agg #[.int .i64 x, .int .i64 0, .int .u32 0, .slice none 0 0]
theorem mkWs.grow {x : Int} : ∀ vals w w', Grow w w' → mkWs x vals w → mkWs x vals w'
 | [], _, _, _, _ => trivial
 | _ :: _, _, _, _, h => h
theorem mkWs.get {x : Int} {vals : List Value} {w : World} {v : Value} (h : mkWs x vals w) (hv : vals[0]? = some v) : v = .agg #[.int .i64 x, .int .i64 0, .int .u32 0, .slice none 0 0] := by
 cases vals with
 | nil => simp at hv
 | cons a r =>
  simp only [List.getElem?_cons_zero, Option.some.injEq] at hv
  subst hv
  exact h
set_option maxRecDepth 100000 in
set_option maxHeartbeats 1000000 in
theorem KeptShardRef_yes (w : World) (B g : Nat) (s : ShardM) (A : Option Addr) (n c : Nat) (hL : LentIntsAt w g s.dead) (hg : g < B) (hR : IntsAt w B A n s.dead) (hB : B ≤ w.heap.size) (hn : n ≤ 1000000) :
  Calls Tryz.prog 68 #[.agg #[.int .i64 s.num, .int .i64 s.size, .int .u32 (s.sum.toNat : Int), .slice (some ⟨g, 0, none⟩) n (n + 12)], .agg #[.int .i64 s.num, .int .i64 s.size, .int .u32 (s.sum.toNat : Int), .slice A n c]] w fun e w' => e = .returned (.bool true) ∧ Grow w w' := by
 have hlen := hR.len
 have hG0 : Grow w ((w.alloc (.cells #[.int .i64 s.num, .int .i64 s.size, .int .u32 (s.sum.toNat : Int), .slice (some ⟨g, 0, none⟩) n (n + 12)] 52)).alloc (.cells #[.int .i64 s.num, .int .i64 s.size, .int .u32 (s.sum.toNat : Int), .slice A n c] 52)) := (Grow.alloc _ _).trans (Grow.alloc _ _)
 have hb0 := Below.mono hG0 hB
 have hL0 := hL.below hb0 hg
 have hR0 := hR.below hb0
 have hLb : IntsAt ((w.alloc (.cells #[.int .i64 s.num, .int .i64 s.size, .int .u32 (s.sum.toNat : Int), .slice (some ⟨g, 0, none⟩) n (n + 12)] 52)).alloc (.cells #[.int .i64 s.num, .int .i64 s.size, .int .u32 (s.sum.toNat : Int), .slice A n c] 52)) B (some ⟨g, 0, none⟩) n s.dead := by
  have h := LentIntsAt.ints hL0 hg
  rw [hlen] at h
  exact h
 have hBz : B ≤ ((w.alloc (.cells #[.int .i64 s.num, .int .i64 s.size, .int .u32 (s.sum.toNat : Int), .slice (some ⟨g, 0, none⟩) n (n + 12)] 52)).alloc (.cells #[.int .i64 s.num, .int .i64 s.size, .int .u32 (s.sum.toNat : Int), .slice A n c] 52)).heap.size := Nat.le_trans hB hG0.size
 have hsame := SameShardRef_any _ B s s (some ⟨g, 0, none⟩) n (n + 12) A n c hLb hR0 hBz (by simp only [maxLen]; omega) (by simp only [maxLen]; omega) true (Lib.hid (sameShard_self s).symm)
 have Hsame := Lib.hid hsame
 have Hlen := Lib.hid hlen
 have HL0 := Lib.hid hL0
 have HR0 := Lib.hid hR0
 have HBz := Lib.hid hBz
 clear hsame hlen hL0 hR0 hLb hb0 hBz
 go_enter Tryz.func68, Tryz.ntmps68
 go_wp2_with fail
 refine Hsame.out.mono ?_
 rintro e w1 ⟨rfl, hg1⟩
 have hL1 := HL0.out.below (Below.mono hg1 HBz.out) hg
 have hR1 := HR0.out.below (Below.mono hg1 HBz.out)
 have hP1 := ((Blk.new w 52 #[.int .i64 s.num, .int .i64 s.size, .int .u32 (s.sum.toNat : Int), .slice (some ⟨g, 0, none⟩) n (n + 12)]).alloc (.cells #[.int .i64 s.num, .int .i64 s.size, .int .u32 (s.sum.toNat : Int), .slice A n c] 52)).below hg1 (by simp; omega)
 have hQ1 : Blk w1 (w.heap.size + 1) 52 #[.int .i64 s.num, .int .i64 s.size, .int .u32 (s.sum.toNat : Int), .slice A n c] := by
  have h := Blk.new (w.alloc (.cells #[.int .i64 s.num, .int .i64 s.size, .int .u32 (s.sum.toNat : Int), .slice (some ⟨g, 0, none⟩) n (n + 12)] 52)) 52 #[.int .i64 s.num, .int .i64 s.size, .int .u32 (s.sum.toNat : Int), .slice A n c]
  have h2 := h.below hg1 h.lt
  simpa using h2
 have hcP := hP1.cell 3
 have hcQ := hQ1.cell 3
 have HG := Lib.hid (hG0.trans hg1)
 go_wp2_with fail
 refine (KeptInts_yes w1 B g A n c s.dead hL1 hR1 (by omega)).mono ?_
 rintro e w2 ⟨rfl, q, rfl⟩
 go_wp2
 go_ret
 exact ⟨rfl, HG.out.trans (Grow.drewN _ _)⟩
set_option maxRecDepth 100000 in
set_option maxHeartbeats 4000000 in
theorem KeptShardRefs_yes (w : World) (B o oo n : Nat) (A : Option Addr) (c : Nat) (ts : List ShardM) (ps : List (Nat × LS)) (hps : ps.map (·.2) = allLS ts) (hL : LSAt w B o oo ps) (hT : ShardsAt w B A n ts) (hB : B ≤ w.heap.size) (hn : n ≤ 1000000) (htot : ∀ t ∈ ts, t.dead.length ≤ 1000000) :
  Calls Tryz.prog 38 #[.slice (some ⟨o, oo, none⟩) n (n + 12), .slice A n c] w fun e w' => e = .returned (.bool true) ∧ Grow w w' := by
 have Hlen := Lib.hid hT.len
 have hnb : ((n : Int) == (n : Int)) = true := by simp
 have hd1 : decide ((n : Int) + 12 ≤ ((n + 12 : Nat) : Int)) = true := decide_eq_true (by omega)
 have Hps := Lib.hid hps
 clear hps
 go_enter Tryz.func38, Tryz.ntmps38
 go_wp2
 go_loopw [6] (fun v6 wr => ∃ k : Nat, k ≤ n + 12 ∧ v6 = .int .i64 (k : Int) ∧ Hid (Grow w wr)) (fun v6 _ => n + 12 - (intOf v6).toNat)
 case atStart => exact ⟨0, by omega, rfl, Grow.refl w⟩
 case round =>
  obtain ⟨k, hk, rfl, hg⟩ := hrel
  by_cases hlt : k < n + 12
  ·have hgz := hg.out.size
   obtain ⟨p, hp⟩ : ∃ p, ps[k]? = some p := ⟨_, List.getElem?_eq_getElem (by
    have h := congrArg List.length Hps.out
    rw [List.length_map, allLS_len, Hlen.out] at h
    omega)⟩
   have hp2 : (allLS ts)[k]? = some p.2 := by rw [← Hps.out, List.getElem?_map, hp]; rfl
   obtain ⟨hpr, hpl⟩ := (hL.below (Below.mono hg.out hB)).at_ k p hp
   obtain ⟨g, P⟩ := p
   have hoB := hL.lt
   have hz1 : o < wr.heap.size := by omega
   by_cases hkn : k < n
   ·obtain ⟨t, ht⟩ : ∃ t, ts[k]? = some t := ⟨_, List.getElem?_eq_getElem (by rw [Hlen.out]; exact hkn)⟩
    have hP : P = ⟨t, false⟩ := by
     have h := allLS_shard ht
     rw [hp2] at h
     injection h
    subst hP
    obtain ⟨hpB, hpl⟩ := hpl rfl
    have hzg : g < wr.heap.size := by have : g < B := hpB; omega
    obtain ⟨b2, off2, A1, n1, c1, rfl, hb2, hc0, hc1, hc2, hc3, -, -, -, hr, -⟩ := (hT.below (Below.mono hg.out hB)).at_ ht
    have hn1 : n1 ≤ 1000000 := by have := htot t (List.mem_of_getElem? ht); rw [hr.len] at this; exact this
    have hz2 : b2 < wr.heap.size := by omega
    have Hm1 := Lib.hid (show wr.rangeAt o (oo + k * 4) [.int .i64 t.num, .int .i64 t.size, .int .u32 (t.sum.toNat : Int), .slice (some ⟨g, 0, none⟩) n1 (n1 + 12)] by
     have h := hpr
     simp only [lsRow, deadV, Bool.false_eq_true, if_false] at h
     rw [hr.len] at h
     exact h)
    have Hm2 := Lib.hid (shard_range hc0 hc1 hc2 hc3)
    have hBz : B ≤ wr.heap.size := by omega
    have Hkp := Lib.hid (show ∀ W, Grow wr W → Calls Tryz.prog 68 #[.agg #[.int .i64 t.num, .int .i64 t.size, .int .u32 (t.sum.toNat : Int), .slice (some ⟨g, 0, none⟩) n1 (n1 + 12)], .agg #[.int .i64 t.num, .int .i64 t.size, .int .u32 (t.sum.toNat : Int), .slice A1 n1 c1]] W fun e w' => e = .returned (.bool true) ∧ Grow W w' from fun W h =>
     KeptShardRef_yes W B g t A1 n1 c1 (Blk.below hpl h hzg) hpB (hr.below (Below.mono h hBz)) (Nat.le_trans hBz h.size) hn1)
    have hg1 : decide ((k : Int) < (n : Int)) = true := decide_eq_true (by omega)
    have hg2 : decide ((n : Int) ≤ (k : Int)) = false := decide_eq_false (by omega)
    have hg3 : decide (k < n) = true := decide_eq_true (by omega)
    have hg4 : decide (n ≤ k) = false := decide_eq_false (by omega)
    clear hp hp2 hpr hpl ht hc0 hc1 hc2 hc3 hr
    go_upto_region 7 with (fail)
    go_cut [57] from 23 to 57 (fun v57 wx => v57 = .bool false ∧ Grow wr wx)
    case first Jx Kx hJx hMx =>
     refine wp_region_stages (by kernel_rfl) ?_
     refine anyOrder_start [] (Keep (fun _ => False)) (fun _ _ => True) (FactsOn [.is (.int .i64 (k : Int)), .is (.slice (some ⟨b2, off2, none⟩) n c), .is (.int .i64 (n : Int)), .is (.bool true), .is (.bool true), .is (.slice (some ⟨o, oo, none⟩) (n + 12) (n + 12)), .is (.int .i64 (k : Int)), .is (.pointer (some ⟨o, oo + k * 4, none⟩)), .is (.agg #[.int .i64 t.num, .int .i64 t.size, .int .u32 (t.sum.toNat : Int), .slice (some ⟨g, 0, none⟩) n1 (n1 + 12)]), .is (.slice (some ⟨b2, off2, none⟩) n c), .is (.int .i64 (k : Int)), .is (.pointer (some ⟨b2, off2 + k * 4, none⟩)), .is (.agg #[.int .i64 t.num, .int .i64 t.size, .int .u32 (t.sum.toNat : Int), .slice A1 n1 c1]), .is (.bool true), .is (.bool false), .is (.bool false), .is (.bool false), .is (.int .i64 (k : Int)), .is (.slice (some ⟨b2, off2, none⟩) n c), .is (.int .i64 (n : Int)), .is (.bool false), .is (.bool false), .is (undef), .is (undef), .is (undef), .is (undef), .is (undef), .is (undef), .is (undef), .is (undef), .is (undef), .is (undef), .is (undef), .is (.bool false), .is (.bool false)]) (fun i => 99) keep_trans keep_grow (fun _ _ _ _ h => h) (factsOn_mono _) (by kernel_rfl) (by kernel_rfl) trivial ?_ ?_
     ·refine ⟨?_, ?_, ?_, ?_, ?_, ?_, ?_, ?_, ?_, ?_, ?_, ?_, ?_, ?_, ?_, ?_, ?_, ?_, ?_, ?_, ?_, ?_, ?_, ?_, ?_, ?_, ?_, ?_, ?_, ?_, ?_, ?_, ?_, ?_, ?_, trivial⟩
      ·refine sF rfl rfl ?_
       intro us vals w3 a' ha hle hW hd hv K hK
       have q6 : a'.tmps[6]? = some (.int .i64 (k : Int)) := by rw [ha.out]; kernel_rfl
       exact sV hK rfl
      ·refine sF rfl rfl ?_
       intro us vals w3 a' ha hle hW hd hv K hK
       have q1 : a'.tmps[1]? = some (.slice (some ⟨b2, off2, none⟩) n c) := by rw [ha.out]; kernel_rfl
       exact sV hK rfl
      ·refine sF rfl rfl ?_
       intro us vals w3 a' ha hle hW hd hv K hK
       obtain ⟨d1, _⟩ := hd
       have q24 : a'.tmps[24]? = some (us 1) := by rw [ha.out]; kernel_rfl
       rw [show us 1 = .slice (some ⟨b2, off2, none⟩) n c from d1] at q24
       exact sV (v := .int .i64 (n : Int)) hK rfl
      ·refine sF rfl rfl ?_
       intro us vals w3 a' ha hle hW hd hv K hK
       obtain ⟨d0, d2, _⟩ := hd
       have q23 : a'.tmps[23]? = some (us 0) := by rw [ha.out]; kernel_rfl
       rw [show us 0 = .int .i64 (k : Int) from d0] at q23
       have q25 : a'.tmps[25]? = some (us 2) := by rw [ha.out]; kernel_rfl
       rw [show us 2 = .int .i64 (n : Int) from d2] at q25
       exact sV (v := .bool true) hK rfl
      ·refine sF rfl rfl ?_
       intro us vals w3 a' ha hle hW hd hv K hK
       obtain ⟨d3, _⟩ := hd
       have q26 : a'.tmps[26]? = some (us 3) := by rw [ha.out]; kernel_rfl
       rw [show us 3 = .bool true from d3] at q26
       exact sV hK rfl
      ·refine stageOf_free rfl (fun us vals w3 a' ha hd => ?_) ?_
       ·obtain ⟨d4, _⟩ := hd
        have q : a'.tmps[27]? = some (us 4) := by rw [ha.out]; kernel_rfl
        rw [show us 4 = .bool true from d4] at q
        exact wanted_some rfl rfl q
       intro us vals w3 a' ha hle hW hd hv K hK
       have q5 : a'.tmps[5]? = some (.slice (some ⟨o, oo, none⟩) (n + 12) (n + 12)) := by rw [ha.out]; kernel_rfl
       exact sV hK rfl
      ·refine stageOf_free rfl (fun us vals w3 a' ha hd => ?_) ?_
       ·obtain ⟨d4, _⟩ := hd
        have q : a'.tmps[27]? = some (us 4) := by rw [ha.out]; kernel_rfl
        rw [show us 4 = .bool true from d4] at q
        exact wanted_some rfl rfl q
       intro us vals w3 a' ha hle hW hd hv K hK
       have q6 : a'.tmps[6]? = some (.int .i64 (k : Int)) := by rw [ha.out]; kernel_rfl
       exact sV hK rfl
      ·refine stageOf_free rfl (fun us vals w3 a' ha hd => ?_) ?_
       ·obtain ⟨_, _, d4, _⟩ := hd
        have q : a'.tmps[27]? = some (us 4) := by rw [ha.out]; kernel_rfl
        rw [show us 4 = .bool true from d4] at q
        exact wanted_some rfl rfl q
       intro us vals w3 a' ha hle hW hd hv K hK
       obtain ⟨d5, d6, _, _⟩ := hd
       have q28 : a'.tmps[28]? = some (us 5) := by rw [ha.out]; kernel_rfl
       rw [show us 5 = .slice (some ⟨o, oo, none⟩) (n + 12) (n + 12) from d5] at q28
       have q29 : a'.tmps[29]? = some (us 6) := by rw [ha.out]; kernel_rfl
       rw [show us 6 = .int .i64 (k : Int) from d6] at q29
       refine step_value (v := .pointer (some ⟨o, oo + k * 4, none⟩)) (w2 := w3) ?_ (hK _ _ (Grow.refl _) rfl)
       go_simp
       (try (intro h; omega))
      ·refine stageOf_free rfl (fun us vals w3 a' ha hd => ?_) ?_
       ·obtain ⟨_, d4, _⟩ := hd
        have q : a'.tmps[27]? = some (us 4) := by rw [ha.out]; kernel_rfl
        rw [show us 4 = .bool true from d4] at q
        exact wanted_some rfl rfl q
       intro us vals w3 a' ha hle hW hd hv K hK
       obtain ⟨d7, _, _⟩ := hd
       have q30 : a'.tmps[30]? = some (us 7) := by rw [ha.out]; kernel_rfl
       rw [show us 7 = .pointer (some ⟨o, oo + k * 4, none⟩) from d7] at q30
       exact wp_load_mid 52 (.tmp 30) rfl o (oo + k * 4) (eval_tmp q30) _ _ (fun j v hj => (hle.toGrow.cell (p := ⟨o, oo + k * 4 + j, none⟩) hz1).trans (Hm1.out j v hj)) Tryz.underlying52 rfl (by kernel_rfl) (hK _ _ (Grow.refl _) rfl)
      ·refine stageOf_free rfl (fun us vals w3 a' ha hd => ?_) ?_
       ·obtain ⟨d4, _⟩ := hd
        have q : a'.tmps[27]? = some (us 4) := by rw [ha.out]; kernel_rfl
        rw [show us 4 = .bool true from d4] at q
        exact wanted_some rfl rfl q
       intro us vals w3 a' ha hle hW hd hv K hK
       have q1 : a'.tmps[1]? = some (.slice (some ⟨b2, off2, none⟩) n c) := by rw [ha.out]; kernel_rfl
       exact sV hK rfl
      ·refine stageOf_free rfl (fun us vals w3 a' ha hd => ?_) ?_
       ·obtain ⟨d4, _⟩ := hd
        have q : a'.tmps[27]? = some (us 4) := by rw [ha.out]; kernel_rfl
        rw [show us 4 = .bool true from d4] at q
        exact wanted_some rfl rfl q
       intro us vals w3 a' ha hle hW hd hv K hK
       have q6 : a'.tmps[6]? = some (.int .i64 (k : Int)) := by rw [ha.out]; kernel_rfl
       exact sV hK rfl
      ·refine stageOf_free rfl (fun us vals w3 a' ha hd => ?_) ?_
       ·obtain ⟨_, _, d4, _⟩ := hd
        have q : a'.tmps[27]? = some (us 4) := by rw [ha.out]; kernel_rfl
        rw [show us 4 = .bool true from d4] at q
        exact wanted_some rfl rfl q
       intro us vals w3 a' ha hle hW hd hv K hK
       obtain ⟨d9, d10, _, _⟩ := hd
       have q32 : a'.tmps[32]? = some (us 9) := by rw [ha.out]; kernel_rfl
       rw [show us 9 = .slice (some ⟨b2, off2, none⟩) n c from d9] at q32
       have q33 : a'.tmps[33]? = some (us 10) := by rw [ha.out]; kernel_rfl
       rw [show us 10 = .int .i64 (k : Int) from d10] at q33
       refine step_value (v := .pointer (some ⟨b2, off2 + k * 4, none⟩)) (w2 := w3) ?_ (hK _ _ (Grow.refl _) rfl)
       go_simp
       (try (intro h; omega))
      ·refine stageOf_free rfl (fun us vals w3 a' ha hd => ?_) ?_
       ·obtain ⟨_, d4, _⟩ := hd
        have q : a'.tmps[27]? = some (us 4) := by rw [ha.out]; kernel_rfl
        rw [show us 4 = .bool true from d4] at q
        exact wanted_some rfl rfl q
       intro us vals w3 a' ha hle hW hd hv K hK
       obtain ⟨d11, _, _⟩ := hd
       have q34 : a'.tmps[34]? = some (us 11) := by rw [ha.out]; kernel_rfl
       rw [show us 11 = .pointer (some ⟨b2, off2 + k * 4, none⟩) from d11] at q34
       exact wp_load_mid 52 (.tmp 34) rfl b2 (off2 + k * 4) (eval_tmp q34) _ _ (fun j v hj => (hle.toGrow.cell (p := ⟨b2, off2 + k * 4 + j, none⟩) hz2).trans (Hm2.out j v hj)) Tryz.underlying52 rfl (by kernel_rfl) (hK _ _ (Grow.refl _) rfl)
      ·refine stageOf_free rfl (fun us vals w3 a' ha hd => ?_) ?_
       ·obtain ⟨_, _, d4, _, _⟩ := hd
        have q : a'.tmps[27]? = some (us 4) := by rw [ha.out]; kernel_rfl
        rw [show us 4 = .bool true from d4] at q
        exact wanted_some rfl rfl q
       intro us vals w3 a' ha hle hW hd hv K hK
       obtain ⟨d8, d12, _, _, _⟩ := hd
       have q31 : a'.tmps[31]? = some (us 8) := by rw [ha.out]; kernel_rfl
       rw [show us 8 = .agg #[.int .i64 t.num, .int .i64 t.size, .int .u32 (t.sum.toNat : Int), .slice (some ⟨g, 0, none⟩) n1 (n1 + 12)] from d8] at q31
       have q35 : a'.tmps[35]? = some (us 12) := by rw [ha.out]; kernel_rfl
       rw [show us 12 = .agg #[.int .i64 t.num, .int .i64 t.size, .int .u32 (t.sum.toNat : Int), .slice A1 n1 c1] from d12] at q35
       refine step_call (f := 68) (args := #[.agg #[.int .i64 t.num, .int .i64 t.size, .int .u32 (t.sum.toNat : Int), .slice (some ⟨g, 0, none⟩) n1 (n1 + 12)], .agg #[.int .i64 t.num, .int .i64 t.size, .int .u32 (t.sum.toNat : Int), .slice A1 n1 c1]]) (by go_simp) ?_
       refine (Hkp.out w3 hle.toGrow).mono ?_
       rintro e w4 ⟨rfl, hg4⟩
       exact ⟨_, rfl, hK _ _ hg4 rfl⟩
      ·refine stageOf_free rfl (fun us vals w3 a' ha hd => ?_) ?_
       ·obtain ⟨_, d4, _⟩ := hd
        have q : a'.tmps[27]? = some (us 4) := by rw [ha.out]; kernel_rfl
        rw [show us 4 = .bool true from d4] at q
        exact wanted_some rfl rfl q
       intro us vals w3 a' ha hle hW hd hv K hK
       obtain ⟨d13, _, _⟩ := hd
       have q36 : a'.tmps[36]? = some (us 13) := by rw [ha.out]; kernel_rfl
       rw [show us 13 = .bool true from d13] at q36
       exact sV (v := .bool false) hK rfl
      ·refine sF rfl rfl ?_
       intro us vals w3 a' ha hle hW hd hv K hK
       obtain ⟨d4, d14, _⟩ := hd
       have q27 : a'.tmps[27]? = some (us 4) := by rw [ha.out]; kernel_rfl
       rw [show us 4 = .bool true from d4] at q27
       have q37 : a'.tmps[37]? = some (us 14) := by rw [ha.out]; kernel_rfl
       rw [show us 14 = .bool false from d14] at q37
       exact sV (v := .bool false) hK rfl
      ·refine sF rfl rfl ?_
       intro us vals w3 a' ha hle hW hd hv K hK
       obtain ⟨d15, _, _⟩ := hd
       have q38 : a'.tmps[38]? = some (us 15) := by rw [ha.out]; kernel_rfl
       rw [show us 15 = .bool false from d15] at q38
       exact sV hK rfl
      ·refine stageOf_free rfl (fun us vals w3 a' ha hd => ?_) ?_
       ·obtain ⟨d16, _⟩ := hd
        have q : a'.tmps[39]? = some (us 16) := by rw [ha.out]; kernel_rfl
        rw [show us 16 = .bool false from d16] at q
        exact wanted_some rfl rfl q
       intro us vals w3 a' ha hle hW hd hv K hK
       have q6 : a'.tmps[6]? = some (.int .i64 (k : Int)) := by rw [ha.out]; kernel_rfl
       exact sV hK rfl
      ·refine stageOf_free rfl (fun us vals w3 a' ha hd => ?_) ?_
       ·obtain ⟨d16, _⟩ := hd
        have q : a'.tmps[39]? = some (us 16) := by rw [ha.out]; kernel_rfl
        rw [show us 16 = .bool false from d16] at q
        exact wanted_some rfl rfl q
       intro us vals w3 a' ha hle hW hd hv K hK
       have q1 : a'.tmps[1]? = some (.slice (some ⟨b2, off2, none⟩) n c) := by rw [ha.out]; kernel_rfl
       exact sV hK rfl
      ·refine stageOf_free rfl (fun us vals w3 a' ha hd => ?_) ?_
       ·obtain ⟨_, d16, _⟩ := hd
        have q : a'.tmps[39]? = some (us 16) := by rw [ha.out]; kernel_rfl
        rw [show us 16 = .bool false from d16] at q
        exact wanted_some rfl rfl q
       intro us vals w3 a' ha hle hW hd hv K hK
       obtain ⟨d18, _, _⟩ := hd
       have q41 : a'.tmps[41]? = some (us 18) := by rw [ha.out]; kernel_rfl
       rw [show us 18 = .slice (some ⟨b2, off2, none⟩) n c from d18] at q41
       exact sV (v := .int .i64 (n : Int)) hK rfl
      ·refine stageOf_free rfl (fun us vals w3 a' ha hd => ?_) ?_
       ·obtain ⟨_, _, d16, _⟩ := hd
        have q : a'.tmps[39]? = some (us 16) := by rw [ha.out]; kernel_rfl
        rw [show us 16 = .bool false from d16] at q
        exact wanted_some rfl rfl q
       intro us vals w3 a' ha hle hW hd hv K hK
       obtain ⟨d17, d19, _, _⟩ := hd
       have q40 : a'.tmps[40]? = some (us 17) := by rw [ha.out]; kernel_rfl
       rw [show us 17 = .int .i64 (k : Int) from d17] at q40
       have q42 : a'.tmps[42]? = some (us 19) := by rw [ha.out]; kernel_rfl
       rw [show us 19 = .int .i64 (n : Int) from d19] at q42
       exact sV (v := .bool false) hK rfl
      ·refine stageOf_free rfl (fun us vals w3 a' ha hd => ?_) ?_
       ·obtain ⟨_, d16, _, _⟩ := hd
        have q : a'.tmps[39]? = some (us 16) := by rw [ha.out]; kernel_rfl
        rw [show us 16 = .bool false from d16] at q
        exact wanted_some rfl rfl q
       intro us vals w3 a' ha hle hW hd hv K hK
       obtain ⟨d20, _, _, _⟩ := hd
       have q43 : a'.tmps[43]? = some (us 20) := by rw [ha.out]; kernel_rfl
       rw [show us 20 = .bool false from d20] at q43
       exact sV hK rfl
      ·refine stageOf_skip rfl (fun us vals w3 a' ha hd => ?_) (fun _ => rfl)
       obtain ⟨d21, _⟩ := hd
       have q : a'.tmps[44]? = some (us 21) := by rw [ha.out]; kernel_rfl
       rw [show us 21 = .bool false from d21] at q
       exact wanted_other rfl rfl q
      ·refine stageOf_skip rfl (fun us vals w3 a' ha hd => ?_) (fun _ => rfl)
       obtain ⟨d21, _⟩ := hd
       have q : a'.tmps[44]? = some (us 21) := by rw [ha.out]; kernel_rfl
       rw [show us 21 = .bool false from d21] at q
       exact wanted_other rfl rfl q
      ·refine stageOf_skip rfl (fun us vals w3 a' ha hd => ?_) (fun _ => rfl)
       obtain ⟨_, _, d21, _⟩ := hd
       have q : a'.tmps[44]? = some (us 21) := by rw [ha.out]; kernel_rfl
       rw [show us 21 = .bool false from d21] at q
       exact wanted_other rfl rfl q
      ·refine stageOf_skip rfl (fun us vals w3 a' ha hd => ?_) (fun _ => rfl)
       obtain ⟨_, d21, _⟩ := hd
       have q : a'.tmps[44]? = some (us 21) := by rw [ha.out]; kernel_rfl
       rw [show us 21 = .bool false from d21] at q
       exact wanted_other rfl rfl q
      ·refine stageOf_skip rfl (fun us vals w3 a' ha hd => ?_) (fun _ => rfl)
       obtain ⟨d21, _⟩ := hd
       have q : a'.tmps[44]? = some (us 21) := by rw [ha.out]; kernel_rfl
       rw [show us 21 = .bool false from d21] at q
       exact wanted_other rfl rfl q
      ·refine stageOf_skip rfl (fun us vals w3 a' ha hd => ?_) (fun _ => rfl)
       obtain ⟨d21, _⟩ := hd
       have q : a'.tmps[44]? = some (us 21) := by rw [ha.out]; kernel_rfl
       rw [show us 21 = .bool false from d21] at q
       exact wanted_other rfl rfl q
      ·refine stageOf_skip rfl (fun us vals w3 a' ha hd => ?_) (fun _ => rfl)
       obtain ⟨_, d21, _⟩ := hd
       have q : a'.tmps[44]? = some (us 21) := by rw [ha.out]; kernel_rfl
       rw [show us 21 = .bool false from d21] at q
       exact wanted_other rfl rfl q
      ·refine stageOf_skip rfl (fun us vals w3 a' ha hd => ?_) (fun _ => rfl)
       obtain ⟨_, _, d21, _⟩ := hd
       have q : a'.tmps[44]? = some (us 21) := by rw [ha.out]; kernel_rfl
       rw [show us 21 = .bool false from d21] at q
       exact wanted_other rfl rfl q
      ·refine stageOf_skip rfl (fun us vals w3 a' ha hd => ?_) (fun _ => rfl)
       obtain ⟨_, d21, _, _⟩ := hd
       have q : a'.tmps[44]? = some (us 21) := by rw [ha.out]; kernel_rfl
       rw [show us 21 = .bool false from d21] at q
       exact wanted_other rfl rfl q
      ·refine stageOf_skip rfl (fun us vals w3 a' ha hd => ?_) (fun _ => rfl)
       obtain ⟨_, _, _, d21, _⟩ := hd
       have q : a'.tmps[44]? = some (us 21) := by rw [ha.out]; kernel_rfl
       rw [show us 21 = .bool false from d21] at q
       exact wanted_other rfl rfl q
      ·refine stageOf_skip rfl (fun us vals w3 a' ha hd => ?_) (fun _ => rfl)
       obtain ⟨_, d21, _⟩ := hd
       have q : a'.tmps[44]? = some (us 21) := by rw [ha.out]; kernel_rfl
       rw [show us 21 = .bool false from d21] at q
       exact wanted_other rfl rfl q
      ·refine stageOf_free rfl (fun us vals w3 a' ha hd => ?_) ?_
       ·obtain ⟨_, _, d16, _⟩ := hd
        have q : a'.tmps[39]? = some (us 16) := by rw [ha.out]; kernel_rfl
        rw [show us 16 = .bool false from d16] at q
        exact wanted_some rfl rfl q
       intro us vals w3 a' ha hle hW hd hv K hK
       obtain ⟨d21, d32, _, _⟩ := hd
       have q44 : a'.tmps[44]? = some (us 21) := by rw [ha.out]; kernel_rfl
       rw [show us 21 = .bool false from d21] at q44
       have q55 : a'.tmps[55]? = some (us 32) := by rw [ha.out]; kernel_rfl
       rw [show us 32 = undef from d32] at q55
       exact sV (v := .bool false) hK rfl
      ·refine sF rfl rfl ?_
       intro us vals w3 a' ha hle hW hd hv K hK
       obtain ⟨d16, d33, _⟩ := hd
       have q39 : a'.tmps[39]? = some (us 16) := by rw [ha.out]; kernel_rfl
       rw [show us 16 = .bool false from d16] at q39
       have q56 : a'.tmps[56]? = some (us 33) := by rw [ha.out]; kernel_rfl
       rw [show us 33 = .bool false from d33] at q56
       exact sV (v := .bool false) hK rfl
     ·intro us vals w3 hle hvl _ _ hf
      have h34 : us 34 = .bool false := hf 34 (by decide) rfl
      exact hMx _ _ (Met.intro (hJx _ _ ⟨us 0, us 1, us 2, us 3, us 4, us 5, us 6, us 7, us 8, us 9, us 10, us 11, us 12, us 13, us 14, us 15, us 16, us 17, us 18, us 19, us 20, us 21, us 22, us 23, us 24, us 25, us 26, us 27, us 28, us 29, us 30, us 31, us 32, us 33, us 34, ⟨h34, hle.toGrow⟩, by kernel_rfl⟩))
    case rest =>
     obtain ⟨rfl, hgx⟩ := hcut
     have HG := Lib.hid (hg.out.trans hgx)
     clear hgx hg
     go_wp2
     go_roundw
     case rel => exact ⟨k + 1, by omega, by go_num, HG⟩
     case measure => simp [intOf]; omega
   ·obtain ⟨x, hx⟩ : ∃ x, x = markI 1 ((k : Int) - (n : Int)) := ⟨_, rfl⟩
    have hP : P = ⟨⟨x, 0, 0, []⟩, true⟩ := by
     have h := allLS_mark (ts := ts) (n := n) (i := k - n) Hlen.out (by omega)
     rw [show n + (k - n) = k by omega, hp2] at h
     injection h with h
     rw [show P = markLS (k - n) from h, markLS, hx, show (((k - n : Nat) : Int)) = (k : Int) - (n : Int) by omega]
    subst hP
    have Hm1 := Lib.hid (show wr.rangeAt o (oo + k * 4) [.int .i64 x, .int .i64 0, .int .u32 0, .slice none 0 0] from hpr)
    have Hmk := Lib.hid (show ∀ W, Calls Tryz.prog 60 #[.int .i64 1, .int .i64 ((k : Int) - (n : Int))] W fun e w' => e = .returned (.agg #[.int .i64 x, .int .i64 0, .int .u32 0, .slice none 0 0]) ∧ Grow W w' from fun W => by
     rw [hx]
     exact markShardRef_any 1 ((k : Int) - (n : Int)) W (by omega) (by omega) (by omega) (by omega))
    have Hsp := Lib.hid (show ∀ W, Calls Tryz.prog 69 #[.agg #[.int .i64 x, .int .i64 0, .int .u32 0, .slice none 0 0], .agg #[.int .i64 x, .int .i64 0, .int .u32 0, .slice none 0 0]] W fun e w' => e = .returned (.bool true) ∧ Grow W w' from fun W =>
     SameShardRef_any W W.heap.size ⟨x, 0, 0, []⟩ ⟨x, 0, 0, []⟩ none 0 0 none 0 0 IntsAt.nil IntsAt.nil (Nat.le_refl _) (by decide) (by decide) true (Lib.hid (sameShard_self _).symm))
    have hw1 : IntKind.i64.wrap ((k : Int) - (n : Int)) = (k : Int) - (n : Int) := IntWalk.i64_in _ (by omega)
    have hg1 : decide ((k : Int) < (n : Int)) = false := decide_eq_false (by omega)
    have hg2 : decide ((n : Int) ≤ (k : Int)) = true := decide_eq_true (by omega)
    have hg3 : decide (k < n) = false := decide_eq_false (by omega)
    have hg4 : decide (n ≤ k) = true := decide_eq_true (by omega)
    clear hp hp2 hpr hpl hx
    go_upto_region 7 with (fail)
    go_cut [57] from 23 to 57 (fun v57 wx => v57 = .bool false ∧ Grow wr wx)
    case first Jx Kx hJx hMx =>
     refine wp_region_stages (by kernel_rfl) ?_
     refine anyOrder_start [30] (Keep (fun _ => False)) (mkWs x) (FactsOn [.is (.int .i64 (k : Int)), .is (.slice A n c), .is (.int .i64 (n : Int)), .is (.bool false), .is (.bool false), .is (undef), .is (undef), .is (undef), .is (undef), .is (undef), .is (undef), .is (undef), .is (undef), .is (undef), .is (undef), .is (.bool false), .is (.bool false), .is (.int .i64 (k : Int)), .is (.slice A n c), .is (.int .i64 (n : Int)), .is (.bool true), .is (.bool true), .is (.slice (some ⟨o, oo, none⟩) (n + 12) (n + 12)), .is (.int .i64 (k : Int)), .is (.pointer (some ⟨o, oo + k * 4, none⟩)), .is (.agg #[.int .i64 x, .int .i64 0, .int .u32 0, .slice none 0 0]), .is (.int .i64 (k : Int)), .is (.slice A n c), .is (.int .i64 (n : Int)), .is (.int .i64 ((k : Int) - (n : Int))), .any, .is (.bool true), .is (.bool false), .is (.bool false), .is (.bool false)]) (fun i => 99) keep_trans keep_grow (mkWs.grow) (factsOn_mono _) (by kernel_rfl) (by kernel_rfl) trivial ?_ ?_
     ·refine ⟨?_, ?_, ?_, ?_, ?_, ?_, ?_, ?_, ?_, ?_, ?_, ?_, ?_, ?_, ?_, ?_, ?_, ?_, ?_, ?_, ?_, ?_, ?_, ?_, ?_, ?_, ?_, ?_, ?_, ?_, ?_, ?_, ?_, ?_, ?_, trivial⟩
      ·refine sF rfl rfl ?_
       intro us vals w3 a' ha hle hW hd hv K hK
       have q6 : a'.tmps[6]? = some (.int .i64 (k : Int)) := by rw [ha.out]; kernel_rfl
       exact sV hK rfl
      ·refine sF rfl rfl ?_
       intro us vals w3 a' ha hle hW hd hv K hK
       have q1 : a'.tmps[1]? = some (.slice A n c) := by rw [ha.out]; kernel_rfl
       exact sV hK rfl
      ·refine sF rfl rfl ?_
       intro us vals w3 a' ha hle hW hd hv K hK
       obtain ⟨d1, _⟩ := hd
       have q24 : a'.tmps[24]? = some (us 1) := by rw [ha.out]; kernel_rfl
       rw [show us 1 = .slice A n c from d1] at q24
       exact sV (v := .int .i64 (n : Int)) hK rfl
      ·refine sF rfl rfl ?_
       intro us vals w3 a' ha hle hW hd hv K hK
       obtain ⟨d0, d2, _⟩ := hd
       have q23 : a'.tmps[23]? = some (us 0) := by rw [ha.out]; kernel_rfl
       rw [show us 0 = .int .i64 (k : Int) from d0] at q23
       have q25 : a'.tmps[25]? = some (us 2) := by rw [ha.out]; kernel_rfl
       rw [show us 2 = .int .i64 (n : Int) from d2] at q25
       exact sV (v := .bool false) hK rfl
      ·refine sF rfl rfl ?_
       intro us vals w3 a' ha hle hW hd hv K hK
       obtain ⟨d3, _⟩ := hd
       have q26 : a'.tmps[26]? = some (us 3) := by rw [ha.out]; kernel_rfl
       rw [show us 3 = .bool false from d3] at q26
       exact sV hK rfl
      ·refine stageOf_skip rfl (fun us vals w3 a' ha hd => ?_) (fun _ => rfl)
       obtain ⟨d4, _⟩ := hd
       have q : a'.tmps[27]? = some (us 4) := by rw [ha.out]; kernel_rfl
       rw [show us 4 = .bool false from d4] at q
       exact wanted_other rfl rfl q
      ·refine stageOf_skip rfl (fun us vals w3 a' ha hd => ?_) (fun _ => rfl)
       obtain ⟨d4, _⟩ := hd
       have q : a'.tmps[27]? = some (us 4) := by rw [ha.out]; kernel_rfl
       rw [show us 4 = .bool false from d4] at q
       exact wanted_other rfl rfl q
      ·refine stageOf_skip rfl (fun us vals w3 a' ha hd => ?_) (fun _ => rfl)
       obtain ⟨_, _, d4, _⟩ := hd
       have q : a'.tmps[27]? = some (us 4) := by rw [ha.out]; kernel_rfl
       rw [show us 4 = .bool false from d4] at q
       exact wanted_other rfl rfl q
      ·refine stageOf_skip rfl (fun us vals w3 a' ha hd => ?_) (fun _ => rfl)
       obtain ⟨_, d4, _⟩ := hd
       have q : a'.tmps[27]? = some (us 4) := by rw [ha.out]; kernel_rfl
       rw [show us 4 = .bool false from d4] at q
       exact wanted_other rfl rfl q
      ·refine stageOf_skip rfl (fun us vals w3 a' ha hd => ?_) (fun _ => rfl)
       obtain ⟨d4, _⟩ := hd
       have q : a'.tmps[27]? = some (us 4) := by rw [ha.out]; kernel_rfl
       rw [show us 4 = .bool false from d4] at q
       exact wanted_other rfl rfl q
      ·refine stageOf_skip rfl (fun us vals w3 a' ha hd => ?_) (fun _ => rfl)
       obtain ⟨d4, _⟩ := hd
       have q : a'.tmps[27]? = some (us 4) := by rw [ha.out]; kernel_rfl
       rw [show us 4 = .bool false from d4] at q
       exact wanted_other rfl rfl q
      ·refine stageOf_skip rfl (fun us vals w3 a' ha hd => ?_) (fun _ => rfl)
       obtain ⟨_, _, d4, _⟩ := hd
       have q : a'.tmps[27]? = some (us 4) := by rw [ha.out]; kernel_rfl
       rw [show us 4 = .bool false from d4] at q
       exact wanted_other rfl rfl q
      ·refine stageOf_skip rfl (fun us vals w3 a' ha hd => ?_) (fun _ => rfl)
       obtain ⟨_, d4, _⟩ := hd
       have q : a'.tmps[27]? = some (us 4) := by rw [ha.out]; kernel_rfl
       rw [show us 4 = .bool false from d4] at q
       exact wanted_other rfl rfl q
      ·refine stageOf_skip rfl (fun us vals w3 a' ha hd => ?_) (fun _ => rfl)
       obtain ⟨_, _, d4, _, _⟩ := hd
       have q : a'.tmps[27]? = some (us 4) := by rw [ha.out]; kernel_rfl
       rw [show us 4 = .bool false from d4] at q
       exact wanted_other rfl rfl q
      ·refine stageOf_skip rfl (fun us vals w3 a' ha hd => ?_) (fun _ => rfl)
       obtain ⟨_, d4, _⟩ := hd
       have q : a'.tmps[27]? = some (us 4) := by rw [ha.out]; kernel_rfl
       rw [show us 4 = .bool false from d4] at q
       exact wanted_other rfl rfl q
      ·refine sF rfl rfl ?_
       intro us vals w3 a' ha hle hW hd hv K hK
       obtain ⟨d4, d14, _⟩ := hd
       have q27 : a'.tmps[27]? = some (us 4) := by rw [ha.out]; kernel_rfl
       rw [show us 4 = .bool false from d4] at q27
       have q37 : a'.tmps[37]? = some (us 14) := by rw [ha.out]; kernel_rfl
       rw [show us 14 = undef from d14] at q37
       exact sV (v := .bool false) hK rfl
      ·refine sF rfl rfl ?_
       intro us vals w3 a' ha hle hW hd hv K hK
       obtain ⟨d15, _, _⟩ := hd
       have q38 : a'.tmps[38]? = some (us 15) := by rw [ha.out]; kernel_rfl
       rw [show us 15 = .bool false from d15] at q38
       exact sV hK rfl
      ·refine stageOf_free rfl (fun us vals w3 a' ha hd => ?_) ?_
       ·obtain ⟨d16, _⟩ := hd
        have q : a'.tmps[39]? = some (us 16) := by rw [ha.out]; kernel_rfl
        rw [show us 16 = .bool false from d16] at q
        exact wanted_some rfl rfl q
       intro us vals w3 a' ha hle hW hd hv K hK
       have q6 : a'.tmps[6]? = some (.int .i64 (k : Int)) := by rw [ha.out]; kernel_rfl
       exact sV hK rfl
      ·refine stageOf_free rfl (fun us vals w3 a' ha hd => ?_) ?_
       ·obtain ⟨d16, _⟩ := hd
        have q : a'.tmps[39]? = some (us 16) := by rw [ha.out]; kernel_rfl
        rw [show us 16 = .bool false from d16] at q
        exact wanted_some rfl rfl q
       intro us vals w3 a' ha hle hW hd hv K hK
       have q1 : a'.tmps[1]? = some (.slice A n c) := by rw [ha.out]; kernel_rfl
       exact sV hK rfl
      ·refine stageOf_free rfl (fun us vals w3 a' ha hd => ?_) ?_
       ·obtain ⟨_, d16, _⟩ := hd
        have q : a'.tmps[39]? = some (us 16) := by rw [ha.out]; kernel_rfl
        rw [show us 16 = .bool false from d16] at q
        exact wanted_some rfl rfl q
       intro us vals w3 a' ha hle hW hd hv K hK
       obtain ⟨d18, _, _⟩ := hd
       have q41 : a'.tmps[41]? = some (us 18) := by rw [ha.out]; kernel_rfl
       rw [show us 18 = .slice A n c from d18] at q41
       exact sV (v := .int .i64 (n : Int)) hK rfl
      ·refine stageOf_free rfl (fun us vals w3 a' ha hd => ?_) ?_
       ·obtain ⟨_, _, d16, _⟩ := hd
        have q : a'.tmps[39]? = some (us 16) := by rw [ha.out]; kernel_rfl
        rw [show us 16 = .bool false from d16] at q
        exact wanted_some rfl rfl q
       intro us vals w3 a' ha hle hW hd hv K hK
       obtain ⟨d17, d19, _, _⟩ := hd
       have q40 : a'.tmps[40]? = some (us 17) := by rw [ha.out]; kernel_rfl
       rw [show us 17 = .int .i64 (k : Int) from d17] at q40
       have q42 : a'.tmps[42]? = some (us 19) := by rw [ha.out]; kernel_rfl
       rw [show us 19 = .int .i64 (n : Int) from d19] at q42
       exact sV (v := .bool true) hK rfl
      ·refine stageOf_free rfl (fun us vals w3 a' ha hd => ?_) ?_
       ·obtain ⟨_, d16, _, _⟩ := hd
        have q : a'.tmps[39]? = some (us 16) := by rw [ha.out]; kernel_rfl
        rw [show us 16 = .bool false from d16] at q
        exact wanted_some rfl rfl q
       intro us vals w3 a' ha hle hW hd hv K hK
       obtain ⟨d20, _, _, _⟩ := hd
       have q43 : a'.tmps[43]? = some (us 20) := by rw [ha.out]; kernel_rfl
       rw [show us 20 = .bool true from d20] at q43
       exact sV hK rfl
      ·refine stageOf_free rfl (fun us vals w3 a' ha hd => ?_) ?_
       ·obtain ⟨d21, _⟩ := hd
        have q : a'.tmps[44]? = some (us 21) := by rw [ha.out]; kernel_rfl
        rw [show us 21 = .bool true from d21] at q
        exact wanted_some rfl rfl q
       intro us vals w3 a' ha hle hW hd hv K hK
       have q5 : a'.tmps[5]? = some (.slice (some ⟨o, oo, none⟩) (n + 12) (n + 12)) := by rw [ha.out]; kernel_rfl
       exact sV hK rfl
      ·refine stageOf_free rfl (fun us vals w3 a' ha hd => ?_) ?_
       ·obtain ⟨d21, _⟩ := hd
        have q : a'.tmps[44]? = some (us 21) := by rw [ha.out]; kernel_rfl
        rw [show us 21 = .bool true from d21] at q
        exact wanted_some rfl rfl q
       intro us vals w3 a' ha hle hW hd hv K hK
       have q6 : a'.tmps[6]? = some (.int .i64 (k : Int)) := by rw [ha.out]; kernel_rfl
       exact sV hK rfl
      ·refine stageOf_free rfl (fun us vals w3 a' ha hd => ?_) ?_
       ·obtain ⟨_, _, d21, _⟩ := hd
        have q : a'.tmps[44]? = some (us 21) := by rw [ha.out]; kernel_rfl
        rw [show us 21 = .bool true from d21] at q
        exact wanted_some rfl rfl q
       intro us vals w3 a' ha hle hW hd hv K hK
       obtain ⟨d22, d23, _, _⟩ := hd
       have q45 : a'.tmps[45]? = some (us 22) := by rw [ha.out]; kernel_rfl
       rw [show us 22 = .slice (some ⟨o, oo, none⟩) (n + 12) (n + 12) from d22] at q45
       have q46 : a'.tmps[46]? = some (us 23) := by rw [ha.out]; kernel_rfl
       rw [show us 23 = .int .i64 (k : Int) from d23] at q46
       refine step_value (v := .pointer (some ⟨o, oo + k * 4, none⟩)) (w2 := w3) ?_ (hK _ _ (Grow.refl _) rfl)
       go_simp
       (try (intro h; omega))
      ·refine stageOf_free rfl (fun us vals w3 a' ha hd => ?_) ?_
       ·obtain ⟨_, d21, _⟩ := hd
        have q : a'.tmps[44]? = some (us 21) := by rw [ha.out]; kernel_rfl
        rw [show us 21 = .bool true from d21] at q
        exact wanted_some rfl rfl q
       intro us vals w3 a' ha hle hW hd hv K hK
       obtain ⟨d24, _, _⟩ := hd
       have q47 : a'.tmps[47]? = some (us 24) := by rw [ha.out]; kernel_rfl
       rw [show us 24 = .pointer (some ⟨o, oo + k * 4, none⟩) from d24] at q47
       exact wp_load_mid 52 (.tmp 47) rfl o (oo + k * 4) (eval_tmp q47) _ _ (fun j v hj => (hle.toGrow.cell (p := ⟨o, oo + k * 4 + j, none⟩) hz1).trans (Hm1.out j v hj)) Tryz.underlying52 rfl (by kernel_rfl) (hK _ _ (Grow.refl _) rfl)
      ·refine stageOf_free rfl (fun us vals w3 a' ha hd => ?_) ?_
       ·obtain ⟨d21, _⟩ := hd
        have q : a'.tmps[44]? = some (us 21) := by rw [ha.out]; kernel_rfl
        rw [show us 21 = .bool true from d21] at q
        exact wanted_some rfl rfl q
       intro us vals w3 a' ha hle hW hd hv K hK
       have q6 : a'.tmps[6]? = some (.int .i64 (k : Int)) := by rw [ha.out]; kernel_rfl
       exact sV hK rfl
      ·refine stageOf_free rfl (fun us vals w3 a' ha hd => ?_) ?_
       ·obtain ⟨d21, _⟩ := hd
        have q : a'.tmps[44]? = some (us 21) := by rw [ha.out]; kernel_rfl
        rw [show us 21 = .bool true from d21] at q
        exact wanted_some rfl rfl q
       intro us vals w3 a' ha hle hW hd hv K hK
       have q1 : a'.tmps[1]? = some (.slice A n c) := by rw [ha.out]; kernel_rfl
       exact sV hK rfl
      ·refine stageOf_free rfl (fun us vals w3 a' ha hd => ?_) ?_
       ·obtain ⟨_, d21, _⟩ := hd
        have q : a'.tmps[44]? = some (us 21) := by rw [ha.out]; kernel_rfl
        rw [show us 21 = .bool true from d21] at q
        exact wanted_some rfl rfl q
       intro us vals w3 a' ha hle hW hd hv K hK
       obtain ⟨d27, _, _⟩ := hd
       have q50 : a'.tmps[50]? = some (us 27) := by rw [ha.out]; kernel_rfl
       rw [show us 27 = .slice A n c from d27] at q50
       exact sV (v := .int .i64 (n : Int)) hK rfl
      ·refine stageOf_free rfl (fun us vals w3 a' ha hd => ?_) ?_
       ·obtain ⟨_, _, d21, _⟩ := hd
        have q : a'.tmps[44]? = some (us 21) := by rw [ha.out]; kernel_rfl
        rw [show us 21 = .bool true from d21] at q
        exact wanted_some rfl rfl q
       intro us vals w3 a' ha hle hW hd hv K hK
       obtain ⟨d26, d28, _, _⟩ := hd
       have q49 : a'.tmps[49]? = some (us 26) := by rw [ha.out]; kernel_rfl
       rw [show us 26 = .int .i64 (k : Int) from d26] at q49
       have q51 : a'.tmps[51]? = some (us 28) := by rw [ha.out]; kernel_rfl
       rw [show us 28 = .int .i64 (n : Int) from d28] at q51
       exact sV (v := .int .i64 ((k : Int) - (n : Int))) hK rfl
      ·refine stageOf_mem (t := 0) rfl ?_
       intro us vals w3 a' ha hle hW hd hv
       obtain ⟨d29, d21, _, _⟩ := hd
       obtain rfl := List.eq_nil_of_length_eq_zero (Nat.le_zero.1 (show vals.length ≤ 0 from Nat.le_of_eq hv))
       have qg : a'.tmps[44]? = some (us 21) := by rw [ha.out]; kernel_rfl
       rw [show us 21 = .bool true from d21] at qg
       refine ⟨wanted_some rfl rfl qg, fun K hK => ?_⟩
       have q52 : a'.tmps[52]? = some (us 29) := by rw [ha.out]; kernel_rfl
       rw [show us 29 = .int .i64 ((k : Int) - (n : Int)) from d29] at q52
       refine step_call (f := 60) (args := #[.int .i64 1, .int .i64 ((k : Int) - (n : Int))]) (by go_simp) ?_
       refine (Hmk.out w3).mono ?_
       rintro e w4 ⟨rfl, hg4⟩
       exact ⟨_, rfl, hK _ _ (Keep.grow hg4) rfl⟩
      ·refine stageOf_free rfl (fun us vals w3 a' ha hd => ?_) ?_
       ·obtain ⟨_, _, _, d21, _⟩ := hd
        have q : a'.tmps[44]? = some (us 21) := by rw [ha.out]; kernel_rfl
        rw [show us 21 = .bool true from d21] at q
        exact wanted_some rfl rfl q
       intro us vals w3 a' ha hle hW hd hv K hK
       obtain ⟨d25, d30, _, _, _⟩ := hd
       have q48 : a'.tmps[48]? = some (us 25) := by rw [ha.out]; kernel_rfl
       rw [show us 25 = .agg #[.int .i64 x, .int .i64 0, .int .u32 0, .slice none 0 0] from d25] at q48
       have q53 : a'.tmps[53]? = some (us 30) := by rw [ha.out]; kernel_rfl
       have hx := mkWs.get hW d30
       rw [hx] at q53
       refine step_call (f := 69) (args := #[.agg #[.int .i64 x, .int .i64 0, .int .u32 0, .slice none 0 0], .agg #[.int .i64 x, .int .i64 0, .int .u32 0, .slice none 0 0]]) (by go_simp) ?_
       refine (Hsp.out w3).mono ?_
       rintro e w4 ⟨rfl, hg4⟩
       exact ⟨_, rfl, hK _ _ hg4 rfl⟩
      ·refine stageOf_free rfl (fun us vals w3 a' ha hd => ?_) ?_
       ·obtain ⟨_, d21, _⟩ := hd
        have q : a'.tmps[44]? = some (us 21) := by rw [ha.out]; kernel_rfl
        rw [show us 21 = .bool true from d21] at q
        exact wanted_some rfl rfl q
       intro us vals w3 a' ha hle hW hd hv K hK
       obtain ⟨d31, _, _⟩ := hd
       have q54 : a'.tmps[54]? = some (us 31) := by rw [ha.out]; kernel_rfl
       rw [show us 31 = .bool true from d31] at q54
       exact sV (v := .bool false) hK rfl
      ·refine stageOf_free rfl (fun us vals w3 a' ha hd => ?_) ?_
       ·obtain ⟨_, _, d16, _⟩ := hd
        have q : a'.tmps[39]? = some (us 16) := by rw [ha.out]; kernel_rfl
        rw [show us 16 = .bool false from d16] at q
        exact wanted_some rfl rfl q
       intro us vals w3 a' ha hle hW hd hv K hK
       obtain ⟨d21, d32, _, _⟩ := hd
       have q44 : a'.tmps[44]? = some (us 21) := by rw [ha.out]; kernel_rfl
       rw [show us 21 = .bool true from d21] at q44
       have q55 : a'.tmps[55]? = some (us 32) := by rw [ha.out]; kernel_rfl
       rw [show us 32 = .bool false from d32] at q55
       exact sV (v := .bool false) hK rfl
      ·refine sF rfl rfl ?_
       intro us vals w3 a' ha hle hW hd hv K hK
       obtain ⟨d16, d33, _⟩ := hd
       have q39 : a'.tmps[39]? = some (us 16) := by rw [ha.out]; kernel_rfl
       rw [show us 16 = .bool false from d16] at q39
       have q56 : a'.tmps[56]? = some (us 33) := by rw [ha.out]; kernel_rfl
       rw [show us 33 = .bool false from d33] at q56
       exact sV (v := .bool false) hK rfl
     ·intro us vals w3 hle hvl _ _ hf
      have h34 : us 34 = .bool false := hf 34 (by decide) rfl
      exact hMx _ _ (Met.intro (hJx _ _ ⟨us 0, us 1, us 2, us 3, us 4, us 5, us 6, us 7, us 8, us 9, us 10, us 11, us 12, us 13, us 14, us 15, us 16, us 17, us 18, us 19, us 20, us 21, us 22, us 23, us 24, us 25, us 26, us 27, us 28, us 29, us 30, us 31, us 32, us 33, us 34, ⟨h34, hle.toGrow⟩, by kernel_rfl⟩))
    case rest =>
     obtain ⟨rfl, hgx⟩ := hcut
     have HG := Lib.hid (hg.out.trans hgx)
     clear hgx hg
     go_wp2
     go_roundw
     case rel => exact ⟨k + 1, by omega, by go_num, HG⟩
     case measure => simp [intOf]; omega
  ·obtain rfl : k = n + 12 := by omega
   go_wp2
   go_ret
   exact ⟨rfl, hg.out⟩
end Go.Proofs.YtcimkoehcdfjdaaGreatDoor

namespace Go.Proofs.YtcimkoehcdfjdaaGreatDoor
open Go.RowKit WireM
set_option linter.unusedVariables false

theorem LSInv.ls_kept {w wr w2 : World} {o N : Nat} {ps : List (Nat × LS)} {S : Nat → Prop} (h : LSInv w o N ps wr) (ho : w.heap.size ≤ o) (hk : Keep S wr w2) (hS : ∀ k, S k → k < w.heap.size) : LSAt w2 w2.heap.size o 0 ps :=
 ⟨Nat.lt_of_lt_of_le (h.own.lt _ rfl).2 hk.size, fun j p hp => by
  obtain ⟨h1, h2⟩ := h.ls.at_ j p hp
  refine ⟨fun i v hv => (hk.cell (p := ⟨o, 0 + j * 4 + i, none⟩) (h.own.lt _ rfl).2 (fun hs => by have h3 : o < w.heap.size := hS _ hs; omega)).trans (h1 i v hv), fun hm => ?_⟩
  obtain ⟨q1, q2, -, q4⟩ := h.at_ p (List.mem_of_getElem? hp) hm
  exact ⟨Nat.lt_of_lt_of_le q2 hk.size, hk.blk q4 (fun hs => by have h3 : p.1 < w.heap.size := hS _ hs; omega)⟩⟩

set_option maxRecDepth 100000 in
set_option maxHeartbeats 2000000 in
theorem LentManifest_any (w : World) (m : ManiM) (A : Option Addr) (n c : Nat) (hT : ShardsAt w w.heap.size A n m.shards) (hn : n ≤ 1000000) (htot : ∀ t ∈ m.shards, t.dead.length ≤ 1000000) :
  Calls Tryz.prog 8 #[.agg #[.int .i64 m.gen, .slice A n c]] w fun e w' => ∃ o ps, e = .returned (.agg #[.int .i64 m.gen, .slice (some ⟨o, 0, none⟩) n (n + 12)]) ∧ ps.map (·.2) = allLS m.shards ∧ LSAt w' w'.heap.size o 0 ps ∧ Grow w w' := by
 obtain ⟨w1, hw1⟩ : ∃ w1, (w.alloc (.cells #[.int .i64 m.gen, .slice A n c] 24)).alloc (.cells #[.int .i64 0, .slice none 0 0] 24) = w1 := ⟨_, rfl⟩
 have hG : Grow w w1 := by rw [← hw1]; exact (Grow.alloc _ _).trans (Grow.alloc _ _)
 have hz : w1.heap.size = w.heap.size + 2 := by rw [← hw1]; simp
 have hP : Blk w1 w.heap.size 24 #[.int .i64 m.gen, .slice A n c] := by rw [← hw1]; exact (Blk.new _ _ _).alloc _
 have hQ : Blk w1 (w.heap.size + 1) 24 #[.int .i64 0, .slice none 0 0] := by
  rw [← hw1]
  have h := Blk.new (w.alloc (.cells #[.int .i64 m.gen, .slice A n c] 24)) 24 #[.int .i64 0, .slice none 0 0]
  simpa using h
 have hlent := LentShardRefs_any w1 w.heap.size A n c m.shards (hT.below hG) hG.size hn htot
 have Hlent := Lib.hid hlent
 have hc1 := hP.cell 1
 have Hz := Lib.hid hz
 clear hlent hz
 go_enter Tryz.func8, Tryz.ntmps8
 go_wp2_with fail
 refine Hlent.out.mono ?_
 rintro e w2 ⟨rfl, ps, hps, hI⟩
 have hG2 : Grow w1 w2 := hI.below
 have hP2 := Grow.blkOf hG2 hP
 have hQ2 := Grow.blkOf hG2 hQ
 have hcP0 := hP2.cell 0
 have hcP1 := hP2.cell 1
 have hfP1 := hP2.frozen 1
 have hcQ0 := hQ2.cell 0
 have hcQ1 := hQ2.cell 1
 have hfQ0 := hQ2.frozen 0
 have hfQ1 := hQ2.frozen 1
 have HI := Lib.hid hI
 have HG2 := Lib.hid hG2
 have hz2 := hG2.size
 clear hI hc1 hP hQ hw1 hG2
 go_wp2_with fail
 obtain ⟨W, hW⟩ : ∃ W, ((w2.setCell ⟨w.heap.size, 1, none⟩ (.slice (some ⟨w1.heap.size, 0, none⟩) n (n + 12))).setCell ⟨w.heap.size + 1, 0, none⟩ (.int .i64 m.gen)).setCell ⟨w.heap.size + 1, 1, none⟩ (.slice (some ⟨w1.heap.size, 0, none⟩) n (n + 12)) = W := ⟨_, rfl⟩
 have hQ3 : Blk W (w.heap.size + 1) 24 #[.int .i64 m.gen, .slice (some ⟨w1.heap.size, 0, none⟩) n (n + 12)] := by
  have h := ((hQ2.far (p := ⟨w.heap.size, 1, none⟩) (by simp) (.slice (some ⟨w1.heap.size, 0, none⟩) n (n + 12))).set 0 (.int .i64 m.gen)).set 1 (.slice (some ⟨w1.heap.size, 0, none⟩) n (n + 12))
  rw [hW] at h
  simpa using h
 have hk : Keep (fun j => j = w.heap.size ∨ j = w.heap.size + 1) w2 W := by
  rw [← hW]
  exact (((Keep.setCell w2 ⟨w.heap.size, 1, none⟩ _).mono fun j hj => Or.inl (Or.inl hj)).trans' ((Keep.setCell _ ⟨w.heap.size + 1, 0, none⟩ _).mono fun j hj => Or.inl (Or.inr hj))).trans' ((Keep.setCell _ ⟨w.heap.size + 1, 1, none⟩ _).mono fun j hj => Or.inl (Or.inr hj))
 rw [hW]
 clear hW
 refine bodyPost_ret (results_cell_row rfl _ _ (w.heap.size + 1) 24 _ (0, 0) _ rfl hQ3 Tryz.underlying24 rfl (by kernel_rfl)) rfl ⟨w1.heap.size, ps, rfl, hps, HI.out.ls_kept (Nat.le_refl _) hk (fun k h => by have := Hz.out; omega), ?_⟩
 exact Below.trans (Below.trans hG (Below.mono HG2.out hG.size)) (hk.below (fun k h => by omega) (Nat.le_trans hG.size hz2))

set_option maxRecDepth 100000 in
set_option maxHeartbeats 2000000 in
theorem KeptManifest_yes (w : World) (m : ManiM) (o n : Nat) (A : Option Addr) (c : Nat) (ps : List (Nat × LS)) (hps : ps.map (·.2) = allLS m.shards) (hL : LSAt w w.heap.size o 0 ps) (hM : ManiAt w w.heap.size (.agg #[.int .i64 m.gen, .slice A n c]) m) (hn : n ≤ 1000000) (htot : ∀ t ∈ m.shards, t.dead.length ≤ 1000000) :
  Calls Tryz.prog 14 #[.agg #[.int .i64 m.gen, .slice (some ⟨o, 0, none⟩) n (n + 12)], .agg #[.int .i64 m.gen, .slice A n c]] w fun e w' => e = .returned (.bool true) ∧ Grow w w' := by
 have hT : ShardsAt w w.heap.size A n m.shards := by
  obtain ⟨⟨A', n', c', e, -, -, -, h⟩, -⟩ := hM
  injection e with e
  simp only [Array.mk.injEq, List.cons.injEq, Value.slice.injEq, and_true, true_and] at e
  obtain ⟨rfl, rfl, rfl⟩ := e
  exact h
 have hw : ∀ t ∈ m.shards, Wide64 t.num ∧ Wide64 t.size ∧ ∀ x ∈ t.dead, Wide64 x := fun t ht => by
  obtain ⟨j, hj, e⟩ := List.getElem_of_mem ht
  obtain ⟨b, off, A1, n1, c1, -, -, -, -, -, -, -, -, -, -, h⟩ := hT.at_ (List.getElem?_eq_some_iff.2 ⟨hj, e⟩)
  exact h
 have hM2 : ManiAt w w.heap.size (.agg #[.int .i64 m.gen, .slice (some ⟨o, 0, none⟩) n (n + 12)]) m := ⟨⟨_, n, n + 12, rfl, by omega, by unfold maxLen; omega, by omega, hL.shards hps hT.len htot hw⟩, hM.gen⟩
 obtain ⟨w1, hw1⟩ : ∃ w1, (w.alloc (.cells #[.int .i64 m.gen, .slice (some ⟨o, 0, none⟩) n (n + 12)] 24)).alloc (.cells #[.int .i64 m.gen, .slice A n c] 24) = w1 := ⟨_, rfl⟩
 have hG : Grow w w1 := by rw [← hw1]; exact (Grow.alloc _ _).trans (Grow.alloc _ _)
 have hP : Blk w1 w.heap.size 24 #[.int .i64 m.gen, .slice (some ⟨o, 0, none⟩) n (n + 12)] := by rw [← hw1]; exact (Blk.new _ _ _).alloc _
 have hQ : Blk w1 (w.heap.size + 1) 24 #[.int .i64 m.gen, .slice A n c] := by
  rw [← hw1]
  have h := Blk.new (w.alloc (.cells #[.int .i64 m.gen, .slice (some ⟨o, 0, none⟩) n (n + 12)] 24)) 24 #[.int .i64 m.gen, .slice A n c]
  simpa using h
 have Hsame := Lib.hid (SameManifest_any w1 _ _ m m (hM2.grow (Nat.le_refl _) hG) (hM.grow (Nat.le_refl _) hG) true (sameManiB_iff.2 rfl).symm)
 have HL := Lib.hid hL
 have HT := Lib.hid hT
 have hcP0 := hP.cell 0
 have hcP1 := hP.cell 1
 have hcQ0 := hQ.cell 0
 have hcQ1 := hQ.cell 1
 clear hL hT hM hM2
 go_enter Tryz.func14, Tryz.ntmps14
 go_wp2_with fail
 refine Hsame.out.mono ?_
 rintro e w2 ⟨rfl, hg2⟩
 have hP2 := Grow.blkOf hg2 hP
 have hQ2 := Grow.blkOf hg2 hQ
 have HG2 := Lib.hid (hG.trans hg2)
 clear hcP0 hcP1 hcQ0 hcQ1 hP hQ hw1 hg2
 have hcP1 := hP2.cell 1
 have hcQ1 := hQ2.cell 1
 go_wp2_with fail
 refine (KeptShardRefs_yes w2 w.heap.size o 0 n A c m.shards ps hps (HL.out.below HG2.out) (HT.out.below HG2.out) HG2.out.size hn htot).mono ?_
 rintro e w3 ⟨rfl, hg3⟩
 go_wp2
 go_ret
 exact ⟨rfl, HG2.out.trans hg3⟩
end Go.Proofs.YtcimkoehcdfjdaaGreatDoor
