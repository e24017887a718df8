/-
  The walk of mudlarklaw25.ManiEnds: manifests whose Gen, Num, Size, Dead are about their ends, with as many shards as may be, and more; bytes of each of these by hand, with numbers turned, are told as written by hand.
-/
import Derived.Test.YtcimkoehcdfjdaaGreatDoorManiPuts
import Derived.Test.YtcimkoehcdfjdaaGreatDoorManiGets
import Derived.Test.YtcimkoehcdfjdaaGreatDoorVAll
namespace Go.Proofs.YtcimkoehcdfjdaaGreatDoor
open Go.RowKit WireM
set_option linter.unusedVariables false

def numsL : List Int := [-9223372036854775808, -1, 0, 1, 2, 3, 3999, 4000, 67108864, 67108865, 1099511627776, 1099511627777, 9223372036854775807]
theorem numsL_wide {x : Int} {i : Nat} (h : numsL[i]? = some x) : Wide64 x := by
 have h2 : x ∈ numsL := List.mem_of_getElem? h
 have h3 : numsL.all (fun x => decide (-9223372036854775808 ≤ x) && decide (x ≤ 9223372036854775807)) = true := by decide
 have h4 := List.all_eq_true.1 h3 x h2
 simp at h4
 exact h4
theorem numsL_at {i : Nat} (h : i < 13) : ∃ x, numsL[i]? = some x := ⟨_, List.getElem?_eq_getElem (show i < numsL.length from h)⟩
theorem mani_range {w : World} {b k : Nat} {g : Int} {A1 : Option Addr} {n1 c1 : Nat} (h0 : w.cell? ⟨b, k, none⟩ = some (.int .i64 g)) (h1 : w.cell? ⟨b, k + 1, none⟩ = some (.slice A1 n1 c1)) : w.rangeAt b k [.int .i64 g, .slice A1 n1 c1] := fun j u hj => by
 match j, hj with
 | 0, hj => cases hj; exact h0
 | 1, hj => cases hj; exact h1

theorem ShardsAt.two {w : World} {B g : Nat} {s t : ShardM} (hb : Blk w g 52 #[.int .i64 s.num, .int .i64 s.size, .int .u32 (s.sum.toNat : Int), .slice none 0 0, .int .i64 t.num, .int .i64 t.size, .int .u32 (t.sum.toNat : Int), .slice none 0 0]) (hg : g < B) (hs : s.dead = []) (ht : t.dead = [])
  (h1 : Wide64 s.num) (h2 : Wide64 s.size) (h3 : Wide64 t.num) (h4 : Wide64 t.size) : ShardsAt w B (some ⟨g, 0, none⟩) 2 [s, t] := by
 refine ⟨rfl, fun _ => ⟨g, 0, rfl, hg, fun j x hj => ?_⟩⟩
 match j, hj with
 | 0, hj =>
  obtain rfl : s = x := by simpa using hj
  refine ⟨[.int .i64 s.num, .int .i64 s.size, .int .u32 (s.sum.toNat : Int), .slice none 0 0], rfl, ⟨none, 0, 0, rfl, Nat.le_refl _, Nat.zero_le _, by omega, by rw [hs]; exact IntsAt.nil, h1, h2, by rw [hs]; simp⟩, fun i u hu => ?_⟩
  rw [hb.cell, Nat.zero_mul]
  simp only [Nat.zero_add]
  match i, hu with
  | 0, hu => simpa using hu
  | 1, hu => simpa using hu
  | 2, hu => simpa using hu
  | 3, hu => simpa using hu
 | 1, hj =>
  obtain rfl : t = x := by simpa using hj
  refine ⟨[.int .i64 t.num, .int .i64 t.size, .int .u32 (t.sum.toNat : Int), .slice none 0 0], rfl, ⟨none, 0, 0, rfl, Nat.le_refl _, Nat.zero_le _, by omega, by rw [ht]; exact IntsAt.nil, h3, h4, by rw [ht]; simp⟩, fun i u hu => ?_⟩
  rw [hb.cell, Nat.one_mul]
  match i, hu with
  | 0, hu => simpa using hu
  | 1, hu => simpa using hu
  | 2, hu => simpa using hu
  | 3, hu => simpa using hu
 | j + 2, hj => simp at hj

theorem wpList_append_wanted {P : Program} (w : World) {ops : Array Oper} {rest : List Oper} {o : Oper} {a : Act} {Q : Exit → Act → World → Prop} (hgd : Region.wanted o (yielded ops a.tmps) = true) (s x : Operand) {t : TypeId}
  (ho : o.op = .call { callee := .builtin .append, args := #[s, x], argTypes := #[t, t] })
  {base e size bytes : Nat} {z : Value} (T : AppTy P t e z size bytes) {v : Value} {n : Nat} {xs : List Value} (hs : a.eval s = v) (hown : w.ownsRow base e size v n xs)
  {B : Nat} {A : Option Addr} {m c : Nat} {news : List Value} (hx : a.eval x = .slice A m c) (hr : ReadsAt w B size A m news) (h1 : ∀ u ∈ news, u.oneCell' = true)
  (h63 : n + m ≤ maxLen) (hbytes : (n + m) * bytes ≤ 140737488355328) (hbase : base ≤ w.heap.size)
  (h : ∀ v' w', w'.ownsRow base e size v' (n + m) (xs ++ news) → w.grownBy w' v.ownBlock → wpList P ops Q rest (a.put o.dst v') w') : wpList P ops Q (o :: rest) a w :=
 wpList_step fun K hK => by
  rw [if_pos hgd]
  exact wp_append_reads w s x ho T hs hown hx hr h1 h63 hbytes hbase fun v' w' h2 h3 h4 => hK _ _ (h v' w' h2 h3)

theorem five_manis {W : World} {z : Nat} {a b : Int} {u : BitVec 32} (ha : Wide64 a) (hb : Wide64 b)
  (h0 : Blk W z 52 #[.int .i64 b, .int .i64 0, .int .u32 0, .slice none 0 0])
  (h1 : Blk W (z + 1) 52 #[.int .i64 1, .int .i64 a, .int .u32 (u.toNat : Int), .slice none 0 0])
  (h2 : Blk W (z + 2) 3 #[.int .i64 a, .int .i64 b])
  (h3 : Blk W (z + 3) 52 #[.int .i64 1, .int .i64 0, .int .u32 0, .slice (some ⟨z + 2, 0, none⟩) 2 2])
  (h4 : Blk W (z + 4) 52 #[.int .i64 a, .int .i64 0, .int .u32 0, .slice none 0 0, .int .i64 b, .int .i64 0, .int .u32 0, .slice none 0 0])
  (h5 : Blk W (z + 5) 24 #[.int .i64 a, .slice none 0 0, .int .i64 a, .slice (some ⟨z, 0, none⟩) 1 1, .int .i64 5, .slice (some ⟨z + 1, 0, none⟩) 1 1, .int .i64 5, .slice (some ⟨z + 3, 0, none⟩) 1 1, .int .i64 5, .slice (some ⟨z + 4, 0, none⟩) 2 2])
  (j : Nat) (hj : j < 5) : ∃ gen A n c m, W.cell? ⟨z + 5, j * 2, none⟩ = some (.int .i64 gen) ∧ W.cell? ⟨z + 5, j * 2 + 1, none⟩ = some (.slice A n c) ∧ ManiAt W W.heap.size (.agg #[.int .i64 gen, .slice A n c]) m := by
 have w0 : Wide64 0 := by unfold Wide64; omega
 have w1 : Wide64 1 := by unfold Wide64; omega
 have w5 : Wide64 5 := by unfold Wide64; omega
 have hm1 : (1 : Nat) ≤ maxLen := by decide
 have hm2 : (2 : Nat) ≤ maxLen := by decide
 match j, hj with
 | 0, _ => exact ⟨a, none, 0, 0, ⟨a, []⟩, h5.cell 0, h5.cell 1, ⟨⟨none, 0, 0, rfl, Nat.le_refl _, Nat.zero_le _, by omega, ⟨rfl, fun h => absurd h (by omega)⟩⟩, ha⟩⟩
 | 1, _ => exact ⟨a, _, 1, 1, ⟨a, [⟨b, 0, 0, []⟩]⟩, h5.cell 2, h5.cell 3, ⟨⟨_, 1, 1, rfl, Nat.le_refl _, hm1, by omega, ShardsAt.one (s := ⟨b, 0, 0, []⟩) h0 h0.lt IntsAt.nil (Nat.le_refl _) (Nat.zero_le _) (by omega) hb w0 (by simp)⟩, ha⟩⟩
 | 2, _ => exact ⟨5, _, 1, 1, ⟨5, [⟨1, a, u, []⟩]⟩, h5.cell 4, h5.cell 5, ⟨⟨_, 1, 1, rfl, Nat.le_refl _, hm1, by omega, ShardsAt.one (s := ⟨1, a, u, []⟩) h1 h1.lt IntsAt.nil (Nat.le_refl _) (Nat.zero_le _) (by omega) w1 ha (by simp)⟩, w5⟩⟩
 | 3, _ =>
  have hr : IntsAt W W.heap.size (some ⟨z + 2, 0, none⟩) 2 [a, b] := IntsAt.of_row h2.cells h2.lt
  exact ⟨5, _, 1, 1, ⟨5, [⟨1, 0, 0, [a, b]⟩]⟩, h5.cell 6, h5.cell 7, ⟨⟨_, 1, 1, rfl, Nat.le_refl _, hm1, by omega, ShardsAt.one (s := ⟨1, 0, 0, [a, b]⟩) h3 h3.lt hr (Nat.le_refl _) hm2 (by omega) w1 w0 (by simp [ha, hb])⟩, w5⟩⟩
 | 4, _ => exact ⟨5, _, 2, 2, ⟨5, [⟨a, 0, 0, []⟩, ⟨b, 0, 0, []⟩]⟩, h5.cell 8, h5.cell 9, ⟨⟨_, 2, 2, rfl, Nat.le_refl _, hm2, by omega, ShardsAt.two (s := ⟨a, 0, 0, []⟩) (t := ⟨b, 0, 0, []⟩) h4 h4.lt rfl rfl ha w0 hb w0⟩, w5⟩⟩

def fiveW (w : World) (z : Nat) (a b c : Int) : World :=
 (((((w.alloc (.cells #[.int .i64 b, .int .i64 0, .int .u32 0, .slice none 0 0] 52)).alloc (.cells #[.int .i64 1, .int .i64 a, .int .u32 c, .slice none 0 0] 52)).alloc (.cells #[.int .i64 a, .int .i64 b] 3)).alloc
  (.cells #[.int .i64 1, .int .i64 0, .int .u32 0, .slice (some ⟨z + 1 + 1, 0, none⟩) 2 2] 52)).alloc (.cells #[.int .i64 a, .int .i64 0, .int .u32 0, .slice none 0 0, .int .i64 b, .int .i64 0, .int .u32 0, .slice none 0 0] 52)).alloc
  (.cells #[.int .i64 a, .slice none 0 0, .int .i64 a, .slice (some ⟨z, 0, none⟩) 1 1, .int .i64 5, .slice (some ⟨z + 1, 0, none⟩) 1 1, .int .i64 5, .slice (some ⟨z + 1 + 1 + 1, 0, none⟩) 1 1, .int .i64 5, .slice (some ⟨z + 1 + 1 + 1 + 1, 0, none⟩) 2 2] 24)
theorem fiveW_grow (w : World) (z : Nat) (a b c : Int) : Grow w (fiveW w z a b c) :=
 (((((Grow.alloc _ _).trans (Grow.alloc _ _)).trans (Grow.alloc _ _)).trans (Grow.alloc _ _)).trans (Grow.alloc _ _)).trans (Grow.alloc _ _)
theorem Blk.newAt {w : World} {z : Nat} (h : w.heap.size = z) (t : Nat) (cs : Array Value) : Blk (w.alloc (.cells cs t)) z t cs := by subst h; exact Blk.new _ _ _
theorem fiveW_at (w : World) (z : Nat) (a b : Int) (u : BitVec 32) (hz : w.heap.size = z) (ha : Wide64 a) (hb : Wide64 b) (j : Nat) (hj : j < 5) :
  ∃ gen A n c m, (fiveW w z a b (u.toNat : Int)).cell? ⟨z + 5, j * 2, none⟩ = some (.int .i64 gen) ∧ (fiveW w z a b (u.toNat : Int)).cell? ⟨z + 5, j * 2 + 1, none⟩ = some (.slice A n c) ∧ ManiAt (fiveW w z a b (u.toNat : Int)) (fiveW w z a b (u.toNat : Int)).heap.size (.agg #[.int .i64 gen, .slice A n c]) m := by
 refine five_manis (a := a) (b := b) (u := u) ha hb ?_ ?_ ?_ ?_ ?_ ?_ j hj
 ·exact (((((Blk.newAt hz _ _).alloc _).alloc _).alloc _).alloc _).alloc _
 ·exact ((((Blk.newAt (by simp [hz]) _ _).alloc _).alloc _).alloc _).alloc _
 ·exact (((Blk.newAt (by simp [hz]) _ _).alloc _).alloc _).alloc _
 ·exact ((Blk.newAt (by simp [hz]) _ _).alloc _).alloc _
 ·exact (Blk.newAt (by simp [hz]) _ _).alloc _
 ·exact Blk.newAt (by simp [hz]) _ _
theorem u32_rem (b : Int) : ∃ u : BitVec 32, b % 4294967296 = (u.toNat : Int) :=
 ⟨BitVec.ofNat 32 (b % 4294967296).toNat, by rw [BitVec.toNat_ofNat, Nat.mod_eq_of_lt (by omega)]; omega⟩

def msL (n : Nat) : List ShardM := (List.range n).map fun j : Nat => ⟨2 * ((j : Int) + 1), (j : Int) + 1, 0, []⟩
def msV (n : Nat) : List Value := List.replicate n (.slice none 0 0)
theorem msL_len (n : Nat) : (msL n).length = n := by simp [msL]
theorem msL_succ (n : Nat) : msL (n + 1) = msL n ++ [⟨2 * ((n : Int) + 1), (n : Int) + 1, 0, []⟩] := by simp [msL, List.range_succ]
theorem msV_succ (n : Nat) : msV (n + 1) = msV n ++ [.slice none 0 0] := by simp [msV, List.replicate_succ']
def msC (n : Nat) : List Value := shardCs (msL n) (msV n)
theorem msC_succ (n : Nat) : msC (n + 1) = msC n ++ [.int .i64 (2 * ((n : Int) + 1)), .int .i64 ((n : Int) + 1), .int .u32 0, .slice none 0 0] := by
 rw [msC, msL_succ, msV_succ, shardCs_snoc (by simp [msV, msL])]
 rfl
theorem ms_own {w : World} {B n : Nat} {v : Value} (h : w.ownsRow B 52 4 v n (msC n)) : ShardsOwn B w v (msL n) (msV n) := by
 refine ⟨by simp [msV, msL], by rw [msL_len]; exact h, fun j x t hx ht => ?_, fun i j x y b hx hy hij hb => ?_⟩
 ·have h1 : x = .slice none 0 0 := (List.mem_replicate.1 (List.mem_of_getElem? hx)).2
  have h2 : t.dead = [] := by
   obtain ⟨q, -, rfl⟩ := List.mem_map.1 (List.mem_of_getElem? ht)
   rfl
  rw [h1, h2]
  exact World.ownsRow_nil _ _ _ _
 ·have h1 : x = .slice none 0 0 := (List.mem_replicate.1 (List.mem_of_getElem? hx)).2
  rw [h1] at hb
  cases hb
theorem ms_mani {w : World} {B n : Nat} {v : Value} (hn : n ≤ 50) (h : w.ownsRow B 52 4 v n (msC n)) : ∃ A c, v = .slice A n c ∧ ManiAt w w.heap.size (.agg #[.int .i64 100, v]) ⟨100, msL n⟩ := by
 obtain ⟨A, c, e, h1, h2, h3⟩ := (ms_own h).reads fun t ht => by
  obtain ⟨q, hq, rfl⟩ := List.mem_map.1 ht
  have := List.mem_range.1 hq
  refine ⟨Nat.zero_le _, ?_, ?_, fun x hx => by simp at hx⟩ <;> simp only [Wide64] <;> omega
 rw [msL_len] at e h1 h3
 exact ⟨A, c, e, ⟨A, n, c, by rw [e], h1, h2, by omega, h3⟩, by simp only [Wide64]; omega⟩

set_option maxRecDepth 100000 in
set_option maxHeartbeats 4000000 in
theorem mends_walk (w : World) (hL : LaidOk w) : Calls Tryz.prog 5 #[] w fun e w' => e = .returned (.bool true) ∧ Below w.heap.size w w' := by
 have bytesTy : AppTy Tryz.prog 28 5 (.int .u8 0) 1 1 := AppTy.mk' Tryz.underlying28 (by kernel_rfl) rfl (by decide)
 have shardTy : AppTy Tryz.prog 22 52 (.agg #[.int .i64 0, .int .i64 0, .int .u32 0, .slice none 0 0]) 4 48 := AppTy.mk' Tryz.underlying22 (by kernel_rfl) rfl (by decide)
 obtain ⟨W0, hW0⟩ : ∃ W0, w.alloc (.cells #[.int .i64 (-9223372036854775808), .int .i64 (-1), .int .i64 0, .int .i64 1, .int .i64 2, .int .i64 3, .int .i64 3999, .int .i64 4000, .int .i64 67108864, .int .i64 67108865, .int .i64 1099511627776, .int .i64 1099511627777, .int .i64 9223372036854775807] 3) = W0 := ⟨_, rfl⟩
 have hG0 : Grow w W0 := by rw [← hW0]; exact Grow.alloc _ _
 have hN0 : Blk W0 w.heap.size 3 (numsL.map i64v).toArray := by rw [← hW0]; exact Blk.new _ _ _
 have HG0 := Lib.hid hG0
 have HN0 := Lib.hid hN0
 clear hG0 hN0
 go_enter Tryz.func5, Tryz.ntmps5
 go_wp2
 try rw [hW0]
 clear hW0
 go_loopw [2] (fun v2 wr => ∃ i : Nat, i ≤ 13 ∧ v2 = .int .i64 (i : Int) ∧ Grow W0 wr) (fun v2 _ => 13 - (intOf v2).toNat)
 case atStart => exact ⟨0, by omega, rfl, Grow.refl _⟩
 case round =>
  obtain ⟨i, hi, rfl, hg⟩ := hrel
  obtain ⟨wo, rfl⟩ : ∃ wo : World, wo = wr := ⟨_, rfl⟩
  have Hg := Lib.hid hg
  clear hg
  by_cases hil : i < 13
  ·have di : decide ((i : Int) < 13) = true := decide_eq_true (by omega)
   go_wp2
   go_loopw [3] (fun v3 wr => ∃ k : Nat, k ≤ 13 ∧ v3 = .int .i64 (k : Int) ∧ Grow W0 wr) (fun v3 _ => 13 - (intOf v3).toNat)
   case atStart => exact ⟨0, by omega, rfl, Hg.out⟩
   case round =>
    obtain ⟨k, hk, rfl, hg⟩ := hrel
    obtain ⟨wo, rfl⟩ : ∃ wo : World, wo = wr := ⟨_, rfl⟩
    have Hg1 := Lib.hid hg
    by_cases hkl : k < 13
    ·have dk : decide ((k : Int) < 13) = true := decide_eq_true (by omega)
     obtain ⟨a, ha⟩ := numsL_at hil
     obtain ⟨b, hb⟩ := numsL_at hkl
     have hN := Grow.blkOf hg HN0.out
     have hca : wo.cell? ⟨w.heap.size, i, none⟩ = some (.int .i64 a) := by rw [hN.cell]; simp [ha, i64v]
     have hcb : wo.cell? ⟨w.heap.size, k, none⟩ = some (.int .i64 b) := by rw [hN.cell]; simp [hb, i64v]
     have Hwa := Lib.hid (numsL_wide ha)
     have Hwb := Lib.hid (numsL_wide hb)
     clear hg ha hb hN
     go_wp2_with fail
     go_quiet (fail)
     go_wp2_with fail
     obtain ⟨W6, hW6⟩ : ∃ W6, fiveW (wo.drewN nq) wo.heap.size a b (b % 4294967296) = W6 := ⟨_, rfl⟩
     have hG6 : Grow wo W6 := by rw [← hW6]; exact Grow.trans (Grow.drewN _ _) (fiveW_grow _ _ _ _ _)
     have h5 : ∀ j, j < 5 → ∃ gen A n c m, W6.cell? ⟨wo.heap.size + 5, j * 2, none⟩ = some (.int .i64 gen) ∧ W6.cell? ⟨wo.heap.size + 5, j * 2 + 1, none⟩ = some (.slice A n c) ∧ ManiAt W6 W6.heap.size (.agg #[.int .i64 gen, .slice A n c]) m := by
      intro j hj
      obtain ⟨u, hu⟩ := u32_rem b
      rw [hu] at hW6
      rw [← hW6]
      exact fiveW_at (wo.drewN nq) wo.heap.size a b u rfl Hwa.out Hwb.out j hj
     have hz6 : wo.heap.size + 5 < W6.heap.size := by rw [← hW6]; simp [fiveW]
     unfold fiveW at hW6
     rw [hW6]
     have HG6 := Lib.hid hG6
     have H5 := Lib.hid h5
     clear hW6 hG6 h5 hca hcb
     go_loopw [59] (fun v59 wr => ∃ j : Nat, j ≤ 5 ∧ v59 = .int .i64 (j : Int) ∧ Grow W6 wr) (fun v59 _ => 5 - (intOf v59).toNat)
     case atStart => exact ⟨0, by omega, rfl, Grow.refl _⟩
     case round =>
      obtain ⟨j, hj, rfl, hgj⟩ := hrel
      by_cases hjl : j < 5
      ·have dj : decide ((j : Int) < 5) = true := decide_eq_true (by omega)
       obtain ⟨gen, A, n, c, m, h1, h2, h3⟩ := H5.out j hjl
       have hm := Lib.hid (mani_range ((hgj.cell (p := ⟨wo.heap.size + 5, j * 2, none⟩) hz6).trans h1) ((hgj.cell (p := ⟨wo.heap.size + 5, j * 2 + 1, none⟩) hz6).trans h2))
       have h3' := h3.grow (Nat.le_refl _) hgj
       have H3 := Lib.hid (h3'.grow (Nat.le_refl _) (Grow.alloc wr (.cells #[.int .i64 gen, .slice A n c] 24)))
       have Hgj := Lib.hid (hgj.trans (Grow.alloc wr (.cells #[.int .i64 gen, .slice A n c] 24)))
       have hzj := Nat.lt_of_lt_of_le hz6 hgj.size
       clear h1 h2 h3 h3' hgj
       go_wp2_with (refine wpList_load_mid rfl 24 (.tmp 61) rfl (wo.heap.size + 5) (j * 2) rfl _ _ hm.out Tryz.underlying24 rfl (by kernel_rfl) ?_)
       have hLj := hL.grow (HG0.out.trans (Hg1.out.trans (HG6.out.trans Hgj.out)))
       refine (mputs_walk _ _ m H3.out hLj).mono ?_
       rintro e w2 ⟨rfl, hg2⟩
       have Hg2 := Lib.hid (Grow.trans Hgj.out hg2)
       clear hg2 hLj
       go_wp2
       go_roundw
       case rel => exact ⟨j + 1, by omega, by go_num, Hg2.out⟩
       case measure => simp [intOf]; omega
      ·have dj : decide ((j : Int) < 5) = false := decide_eq_false (by omega)
       have Hgz := Lib.hid (Hg1.out.trans (HG6.out.trans hgj))
       clear hgj
       go_wp2_with fail
       obtain ⟨Wa, hWa⟩ : ∃ Wa, wr.alloc (.cells #[.slice none 0 0, .bool false] 55) = Wa := ⟨_, rfl⟩
       have hGa : Grow W0 Wa := by rw [← hWa]; exact Hgz.out.trans (Grow.alloc _ _)
       have hWr0 : Wr 55 Wa wr.heap.size wr.heap.size (.slice none 0 0) [] false := by rw [← hWa]; exact ⟨Blk.new _ _ _, World.ownsRow_nil _ _ _ _, Nat.le_refl _⟩
       have hz0 : W0.heap.size ≤ wr.heap.size := Hgz.out.size
       rw [hWa]
       clear hWa
       refine (vNumber_any Wa wr.heap.size wr.heap.size _ [] false _ hWr0 (by simp)).mono ?_
       rintro e w1 ⟨rfl, v1, l1, b1, hWr1, hf1, -, hl1⟩
       have hG1 : Grow W0 w1 := Below.trans hGa (Below.mono (hWr0.below' hf1) hz0)
       simp only [List.length_nil, Nat.zero_add] at hl1
       clear hWr0 hf1 hGa
       go_wp2_with fail
       refine (Calls.mono (show Calls Tryz.prog 22 #[.pointer (some ⟨wr.heap.size, 0, none⟩), .int .i64 1] w1 _ from vNumber_any w1 wr.heap.size wr.heap.size v1 l1 b1 1 hWr1 (by omega)) ?_)
       rintro e w2 ⟨rfl, v2, l2, b2, hWr2, hf2, -, hl2⟩
       have hG2 : Grow W0 w2 := Below.trans hG1 (Below.mono (hWr1.below' hf2) hz0)
       have hl2' : l2.length ≤ 12 := by omega
       clear hWr1 hf2 hG1 hl1 hl2
       go_wp2_with fail
       refine (Calls.mono (show Calls Tryz.prog 22 #[.pointer (some ⟨wr.heap.size, 0, none⟩), .int .i64 1] w2 _ from vNumber_any w2 wr.heap.size wr.heap.size v2 l2 b2 1 hWr2 (by omega)) ?_)
       rintro e w3 ⟨rfl, v3, l3, b3, hWr3, hf3, -, hl3⟩
       have hG3 : Grow W0 w3 := Below.trans hG2 (Below.mono (hWr2.below' hf3) hz0)
       have hl3' : l3.length ≤ 18 := by omega
       clear hWr2 hf3 hG2 hl2' hl3
       go_wp2_with fail
       refine (vNumber_any w3 wr.heap.size wr.heap.size v3 l3 b3 _ hWr3 (by omega)).mono ?_
       rintro e w4 ⟨rfl, v4, l4, b4, hWr4, hf4, -, hl4⟩
       have hG4 : Grow W0 w4 := Below.trans hG3 (Below.mono (hWr3.below' hf4) hz0)
       have hl4' : l4.length ≤ 24 := by omega
       clear hWr3 hf4 hG3 hl3' hl4
       go_wp2_with fail
       refine (Calls.mono (show Calls Tryz.prog 23 #[.pointer (some ⟨wr.heap.size, 0, none⟩), .int .u32 9] w4 _ from vFixed_any w4 wr.heap.size wr.heap.size v4 l4 b4 9 hWr4 (by omega)) ?_)
       rintro e w5 ⟨rfl, v5, l5, b5, hWr5, hf5, -, hl5⟩
       have hG5 : Grow W0 w5 := Below.trans hG4 (Below.mono (hWr4.below' hf5) hz0)
       have hl5' : l5.length ≤ 28 := by omega
       clear hWr4 hf5 hG4 hl4' hl5
       go_wp2_with fail
       obtain ⟨x, hx⟩ : ∃ x, x = max a 1 % 5000 := ⟨_, rfl⟩
       rw [← hx]
       clear hx
       obtain ⟨Wb, hWb⟩ : ∃ Wb, w5.alloc (.cells #[.int .i64 0, .int .i64 x] 3) = Wb := ⟨_, rfl⟩
       have hgb : Grow w5 Wb := by rw [← hWb]; exact Grow.alloc _ _
       have hWrb := hWr5.grow hgb
       have hib : Blk Wb w5.heap.size 3 #[.int .i64 0, .int .i64 x] := by rw [← hWb]; exact Blk.new _ _ _
       have hob : ¬ FootS wr.heap.size v5 w5.heap.size := hWr5.old (Nat.le_refl _)
       have hGb := hG5.trans hgb
       rw [hWb]
       clear hWb hgb hG5 hWr5
       refine (vRising_any Wb wr.heap.size wr.heap.size v5 l5 b5 (some ⟨w5.heap.size, 0, none⟩) 2 2 [0, x] hWrb (IntsAt.of_row hib.cells hib.lt) (fun _ ad h => by injection h with h; rw [← h]; exact hob) (by omega)).mono ?_
       rintro e w6 ⟨rfl, v6, l6, b6, hWr6, hf6, -, hl6⟩
       have hG6 : Grow W0 w6 := Below.trans hGb (Below.mono (hWrb.below' hf6) hz0)
       have hl6' : l6.length ≤ 60 := by omega
       clear hWrb hib hob hf6 hGb hl5' hl6
       go_wp2_with fail
       refine (vBytes_any w6 wr.heap.size wr.heap.size v6 l6 b6 hWr6 (by omega)).mono ?_
       rintro e w7 ⟨r7, rfl, ho7, hg7⟩
       obtain ⟨L7, hL7⟩ : ∃ L, L = told (stOf l6 b6) := ⟨_, rfl⟩
       have hL7l : L7.length ≤ 60 := by rw [hL7]; cases b6 <;> simp [stOf, told]; omega
       rw [← hL7] at ho7
       obtain ⟨n7, hn7⟩ : ∃ n, n = L7.length := ⟨_, rfl⟩
       rw [← hn7] at ho7 hL7l
       obtain ⟨A7, c7, rfl, h71, h72, h73⟩ := own_reads ho7
       have hWr7 := hWr6.grow hg7
       have hG7 := hG6.trans hg7
       have HL7 := Lib.hid hL7
       have Hn7 := Lib.hid hn7
       clear hL7 hn7 hWr6 hG6 hg7 ho7
       go_wp2_with fail
       have hLa := Lib.hid (hL.grow (HG0.out.trans hG7))
       have Hca := Lib.hid (show Calls Tryz.prog 4 #[.slice A7 n7 c7, .int .u8 (i : Int)] w7 fun e w' => e = .returned (.bool true) ∧ Below w7.heap.size w7 w' from by
        rw [← u8_ofNat i (by omega)]
        exact mgets_walk w7 A7 n7 c7 L7 (UInt8.ofNat i) h73 h71 h72 hLa.out)
       clear h73 h71 h72
       refine Hca.out.mono ?_
       rintro e w8 ⟨rfl, hg8⟩
       have hg8 : Grow w7 w8 := hg8
       have hWr8 := hWr7.grow hg8
       have hG8 := hG7.trans hg8
       clear Hca hLa hg8 hWr7 hG7
       go_wp2_with fail
       refine (vBytes_any w8 wr.heap.size wr.heap.size v6 l6 b6 hWr8 (by omega)).mono ?_
       rintro e w9 ⟨r9, rfl, ho9, hg9⟩
       rw [← HL7.out, ← Hn7.out] at ho9
       obtain ⟨A9, c9, rfl, h91, h92, -⟩ := own_reads ho9
       have hG9 := hG8.trans hg9
       have hz89 := hg9.size
       have hgA : Grow w9 (w9.alloc (.cells #[.int .u8 0] 5)) := Grow.alloc _ _
       have hoA := own_below ho9 hgA
       have hGA := hG9.trans hgA
       have hzA : w8.heap.size ≤ (w9.alloc (.cells #[.int .u8 0] 5)).heap.size := Nat.le_trans hz89 hgA.size
       have hz08 : W0.heap.size ≤ w8.heap.size := hG8.size
       clear hWr8 hg9 hG9 ho9 hgA
       go_wp2_with (at_builtin; refine wpList_append_wanted _ (by kernel_rfl) (.tmp 99) (.tmp 100) rfl bytesTy rfl hoA rfl (BytesAt.made1 w9 5 0) (b8_one [0]) (by simp only [maxLen]; omega) (by omega) hzA ?_; intro v10 w10 hown10 hgr10)
       have hG10 : Grow W0 w10 := Below.trans hGA ((Keep.grown hgr10).below (fun j hj => Nat.le_trans hz08 (hoA.lt j hj).1) hGA.size)
       rw [show L7.map b8 ++ ([0] : List UInt8).map b8 = (L7 ++ [0]).map b8 by rw [List.map_append]] at hown10
       obtain ⟨A10, c10, rfl, h101, h102, h103⟩ := own_reads hown10
       have hLb := Lib.hid (hL.grow (HG0.out.trans hG10))
       have Hcb := Lib.hid (show Calls Tryz.prog 4 #[.slice A10 (n7 + 1) c10, .int .u8 2] w10 fun e w' => e = .returned (.bool true) ∧ Below w10.heap.size w10 w' from mgets_walk w10 A10 (n7 + 1) c10 (L7 ++ [0]) 2 h103 h101 h102 hLb.out)
       clear h103 h101 h102 hown10 hgr10 hoA hGA hzA
       refine Hcb.out.mono ?_
       rintro e w11 ⟨rfl, hg11⟩
       have hG11 := Lib.hid (show Grow W0 w11 from hG10.trans hg11)
       clear Hcb hLb hg11 hG10 hG8
       go_wp2
       go_roundw
       case rel => exact ⟨k + 1, by omega, by go_num, hG11.out⟩
       case measure => simp [intOf]; omega
    ·have dk : decide ((k : Int) < 13) = false := decide_eq_false (by omega)
     clear hg
     go_wp2
     go_roundw
     case rel => exact ⟨i + 1, by omega, by go_num, Hg1.out⟩
     case measure => simp [intOf]; omega
  ·have di : decide ((i : Int) < 13) = false := decide_eq_false (by omega)
   go_wp2_with fail
   have hz0 : W0.heap.size ≤ wo.heap.size := Hg.out.size
   have hGg : Grow W0 (wo.alloc (.cells #[.int .i64 100, .slice none 0 0] 24)) := Hg.out.trans (Grow.alloc _ _)
   go_loopw [10] (fun v10 wr => ∃ (i : Nat) (v : Value), i ≤ 42 ∧ v10 = .int .i64 ((i : Int) + 1) ∧ Blk wr wo.heap.size 24 #[.int .i64 100, v] ∧ wr.ownsRow (wo.heap.size + 1) 52 4 v i (msC i) ∧ Grow W0 wr) (fun v10 _ => 43 - (intOf v10).toNat)
   case atStart => exact ⟨0, _, by omega, rfl, Blk.new _ _ _, by rw [show msC 0 = [] from rfl]; exact World.ownsRow_nil _ _ _ _, hGg⟩
   case round =>
    clear hGg
    obtain ⟨i, v, hib, rfl, hbl, hown, hg⟩ := hrel
    have hzr := hbl.lt
    by_cases hil : i < 42
    ·have di : decide ((i : Int) + 1 < 43) = true := decide_eq_true (by omega)
     have hc1 := hbl.cell 1
     have hf1 := hbl.frozen 1
     have hown' := own_below hown (Grow.alloc wr (.cells #[.int .i64 (2 * ((i : Int) + 1)), .int .i64 ((i : Int) + 1), .int .u32 0, .slice none 0 0] 52))
     have hbl' := hbl.alloc (.cells #[.int .i64 (2 * ((i : Int) + 1)), .int .i64 ((i : Int) + 1), .int .u32 0, .slice none 0 0] 52)
     have hvn : some wo.heap.size ≠ v.ownBlock := fun e => by have := (hown.lt _ e.symm).1; omega
     have Hvg := Lib.hid (show ∀ j, v.ownBlock = some j → W0.heap.size ≤ j from fun j hj => by have := (hown.lt j hj).1; omega)
     clear hown hbl
     go_wp2_with (at_builtin; refine wpList_append_reads _ rfl (.tmp 111) (.tmp 116) rfl shardTy rfl hown' rfl (ReadsAt.madeS wr 52 4 [.int .i64 (2 * ((i : Int) + 1)), .int .i64 ((i : Int) + 1), .int .u32 0, .slice none 0 0] rfl) (by simp [Value.oneCell']) (by simp only [maxLen]; omega) (by omega) (by simp; omega) ?_; intro v' w2 hown2 hgr2 hat2; obtain ⟨A', c', rfl, -, -, -⟩ := own_reads hown2; have hbl2 := hbl'.grown hgr2 hvn; have hc2 := hbl2.cell 1; have hc20 := hbl2.cell 0; have hf2 := hbl2.frozen 1; clear hat2)
     have hg3 : Below W0.heap.size W0 w2 := Below.trans (Grow.trans hg (Grow.alloc wr (.cells #[.int .i64 (2 * ((i : Int) + 1)), .int .i64 ((i : Int) + 1), .int .u32 0, .slice none 0 0] 52))) ((Keep.grown hgr2).below (fun j hj => Hvg.out j hj) (Nat.le_trans (Nat.le_trans hz0 (Nat.le_of_lt hzr)) (Grow.alloc wr (.cells #[.int .i64 (2 * ((i : Int) + 1)), .int .i64 ((i : Int) + 1), .int .u32 0, .slice none 0 0] 52)).size))
     have hg4 : Grow W0 (w2.setCell ⟨wo.heap.size, 1, none⟩ (.slice A' (i + 1) c')) := Below.setCell hg3 (p := ⟨wo.heap.size, 1, none⟩) hz0 _
     have hbl4 : Blk (w2.setCell ⟨wo.heap.size, 1, none⟩ (.slice A' (i + 1) c')) wo.heap.size 24 #[.int .i64 100, .slice A' (i + 1) c'] := hbl2.set 1 _
     have hown4 : (w2.setCell ⟨wo.heap.size, 1, none⟩ (.slice A' (i + 1) c')).ownsRow (wo.heap.size + 1) 52 4 (.slice A' (i + 1) c') (i + 1) (msC (i + 1)) := by
      rw [msC_succ]
      refine (Keep.setCell w2 ⟨wo.heap.size, 1, none⟩ (.slice A' (i + 1) c')).own hown2 fun k hk e => ?_
      have e2 : k = wo.heap.size := e
      have := (hown2.lt k hk).1
      omega
     obtain ⟨W4, hW4⟩ : ∃ W4, w2.setCell ⟨wo.heap.size, 1, none⟩ (.slice A' (i + 1) c') = W4 := ⟨_, rfl⟩
     rw [hW4] at hg4 hbl4 hown4 ⊢
     clear hW4 hg3 hgr2 hown2 hbl2 hc2 hc20 hf2 hc1 hf1 hown' hbl' hg
     obtain ⟨A5, c5, -, hM⟩ := ms_mani (by omega) hown4
     have hL4 := hL.grow (HG0.out.trans hg4)
     refine (mputs_walk W4 _ _ hM hL4).mono ?_
     rintro e w5 ⟨rfl, hg5⟩
     have hg5 : Grow W4 w5 := hg5
     have Hbl5 := Lib.hid (Grow.blkOf hg5 hbl4)
     have Hown5 := Lib.hid (own_below hown4 hg5)
     have Hg5 := Lib.hid (hg4.trans hg5)
     clear hM hL4 hg5 hg4 hbl4 hown4
     go_wp2
     go_roundw
     case rel => exact ⟨i + 1, _, by omega, by go_num, Hbl5.out, Hown5.out, Hg5.out⟩
     case measure => simp [intOf]; omega
    ·have di : decide ((i : Int) + 1 < 43) = false := decide_eq_false (by omega)
     have Hgz := Lib.hid hg
     have hLz := hL.grow (HG0.out.trans hg)
     clear hbl hown hg
     go_wp2_with fail
     refine (awake25_any wr hLz).mono ?_
     rintro e w1 ⟨rfl, hg1⟩
     go_wp2
     go_ret
     exact ⟨rfl, HG0.out.trans (Hgz.out.trans hg1)⟩
end Go.Proofs.YtcimkoehcdfjdaaGreatDoor
