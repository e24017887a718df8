/-
  The walk of the document's Get (layer 25).
  The walk of mudlarklaw25's gets: what is got of bytes is what the document tells.
  The walk of mudlarklaw25.ManiGets: what any bytes are, as they stand, as a part of each tag, and as a file's with its sum, is what the document tells; they stay, what is told lies apart.
-/
import Derived.Deep.MidRow
import Derived.Test.YtcimkoehcdfjdaaGreatDoorManiRef
import Derived.Test.YtcimkoehcdfjdaaGreatDoorManiUse
import Derived.Test.YtcimkoehcdfjdaaGreatDoorDAll
import Derived.Test.YtcimkoehcdfjdaaGreatDoorFrameRGet
import Derived.Test.YtcimkoehcdfjdaaGreatDoorApartMani
import Derived.Test.YtcimkoehcdfjdaaGreatDoorFrameRPut
import Derived.Test.YtcimkoehcdfjdaaGreatDoorFrameAwake
namespace Go.Proofs.YtcimkoehcdfjdaaGreatDoor
open Go.RowKit Go.Shelf WireM
set_option linter.unusedVariables false
attribute [local go_sem] Oper.semAt_some

theorem results_cell_slot {P : Program} {fn : Func} {p q : Tmp} {t : TypeId} (h : fn.results = #[.cell p t, .tmp q]) (tmps : Array Value) (w : World) (g : Nat) (x y : Value)
  (hp : tmps.getD p undef = .pointer (some ⟨g, 0, none⟩)) (hq : tmps.getD q undef = y) (hx : (loadVar t ⟨g, 0, none⟩).run P w = .ok x w) :
  (results fn tmps).run P w = .ok (.tuple #[x, y]) w := by
 have hp' : tmps[p]?.getD undef = .pointer (some ⟨g, 0, none⟩) := by simpa using hp
 have hq' : tmps[q]?.getD undef = y := by simpa using hq
 simp [results, h, hp', hq', asAddr, hx, Result.andThen]
theorem mload_of {W : World} {g : Nat} {v1 v2 : Value} (h : Blk W g 24 #[v1, v2]) : (loadVar 24 ⟨g, 0, none⟩).run Tryz.prog W = .ok (.agg #[v1, v2]) W := by
 have hc0 := h.cell 0
 have hc1 := h.cell 1
 go_simp
def MRGetTo (w : World) (b : List UInt8) (e : Ending) (w' : World) : Prop := Grow w w' ∧
 ((∃ m A c, getF b = some m ∧ e = .returned (.tuple #[.agg #[.int .i64 m.gen, .slice A m.shards.length c], .int .i64 0]) ∧ ManiAt w' w'.heap.size (.agg #[.int .i64 m.gen, .slice A m.shards.length c]) m) ∨ (getF b = none ∧ e = .returned (.tuple #[.agg #[.int .i64 0, .slice none 0 0], .int .i64 9])))
structure MRJ (w : World) (R Mb : Nat) (A2 : Option Addr) (n2 c2 : Nat) (L : List UInt8) (gen : Int) (ss : List ShardM) (at_ : Nat) (bad : Bool) (W : World) : Prop where
 rd : Rdd W R A2 n2 c2 L at_ bad
 out : ∃ v vs, Blk W Mb 24 #[.int .i64 gen, v] ∧ ShardsOwn R W v ss vs
 res : Blk W w.heap.size 24 #[.int .i64 0, .slice none 0 0]
 below : Below w.heap.size w W
 reg : w.heap.size < R
 meb : R < Mb
def MRS (T : List ShardM × St) (L : List UInt8) (N k : Nat) (ss : List ShardM) (at_ : Nat) (bad : Bool) : Prop :=
 (bad = true → T.2 = none) ∧ (bad = false → T = (ss ++ (getShards (N - k) (some (L.drop at_))).1, (getShards (N - k) (some (L.drop at_))).2))
set_option maxRecDepth 100000 in
set_option maxHeartbeats 2000000 in
theorem mrGet_any (w : World) (B : Nat) (A : Option Addr) (n c : Nat) (b : List UInt8) (hR : BytesAt w B A n b) (hB : B ≤ w.heap.size) (hnc : n ≤ c) (hc : c ≤ maxLen) (hn : n ≤ 67108864) :
  Calls Tryz.prog 52 #[.slice A n c] w (MRGetTo w b) := by
 obtain ⟨W0, hW0⟩ : ∃ W0, w.alloc (.cells #[.int .i64 0, .slice none 0 0] 24) = W0 := ⟨_, rfl⟩
 have hG0 : Grow w W0 := by rw [← hW0]; exact Grow.alloc _ _
 have hM0 : Blk W0 w.heap.size 24 #[.int .i64 0, .slice none 0 0] := by rw [← hW0]; exact Blk.new _ _ _
 have hR0 : BytesAt W0 B A n b := ReadsAt.keep hR fun p hp => hG0.cell (Nat.lt_of_lt_of_le hp hB)
 have hBz : B ≤ W0.heap.size := Nat.le_trans hB hG0.size
 go_enter Tryz.func52, Tryz.ntmps52
 go_wp2_with fail
 refine (rGet_any W0 B A n c b hR0 hBz hnc hc hn).mono ?_
 clear hW0
 rintro e W1 hgt
 rcases hgt with ⟨ts, v, vs, hgb, rfl, hP, hG1⟩ | ⟨hgb, rfl, hG1⟩
 ·have hM1 := Grow.blkOf hG1 hM0
  have hGw := hG0.trans hG1
  have hbl : (bodyB ts).length ≤ n := by
   have h1 := get_one hgb
   have h2 := hR.len
   rw [h1, fileB_len] at h2
   omega
  obtain ⟨A1, c1, rfl, h11, h12, h13⟩ := hP.reads (fun t ht => by have := part_le ht; omega)
  by_cases hlen : ts.length = 1
  ·obtain ⟨t, rfl⟩ := List.length_eq_one_iff.1 hlen
   obtain ⟨bb, off, A2, n2, c2, rfl, hb2, hp0, hp1, hnc2, hcm2, hn2, hR2⟩ := h13.at_ (k := 0) rfl
   rw [Nat.zero_mul, Nat.add_zero] at hp0 hp1
   have d1 : (((1 : Nat) : Int) == 1) = true := rfl
   have hn2' : n2 ≤ 67108864 := by have h1 := hR2.len; have h2 := part_le (ts := [t]) (t := t) (by simp); omega
   by_cases htag : t.tag = 1
   ·have d2 : ((t.tag.toNat : Int) == 1) = true := by rw [htag]; rfl
    obtain ⟨N1, hN1⟩ : ∃ N1, N1 = num 1099511627776 (some t.b) := ⟨_, rfl⟩
    obtain ⟨N2, hN2⟩ : ∃ N2, N2 = num 40 N1.2 := ⟨_, rfl⟩
    have HN1 := Lib.hid hN1
    have HN2 := Lib.hid hN2
    have hN1le : N1.1 ≤ 1099511627776 := by rw [hN1]; exact num_le 1099511627776 _
    have hN2le : N2.1 ≤ 40 := by rw [hN2]; exact num_le 40 _
    have hgm : getF b = if (getShards N2.1 N2.2).2 = some [] ∧ maniRight ⟨(N1.1 : Int), (getShards N2.1 N2.2).1⟩ = true then some ⟨(N1.1 : Int), (getShards N2.1 N2.2).1⟩ else none := by
     rw [getF_one hgb htag, getM, ← hN1, ← hN2]
    have Hgm := Lib.hid hgm
    clear hN1 hN2 hgm
    have hR2z := hR2
    go_wp2_with fail
    have hX0 : Rdd (W1.alloc (.cells #[.slice A2 n2 c2, .int .i64 0, .bool false] 167)) W1.heap.size A2 n2 c2 t.b 0 false := by
     refine ⟨Blk.new _ _ _, ReadsAt.more (ReadsAt.below hR2 (Grow.alloc _ _)) (by simp), fun h0 ad e => ?_, hnc2, hcm2, Nat.zero_le _⟩
     obtain ⟨b', off', e2, hb', _⟩ := hR2.at_ h0
     rw [e2] at e
     injection e with e
     rw [← e]
     exact Nat.ne_of_lt hb'
    have hn1 := dNumber_any _ W1.heap.size A2 n2 c2 t.b 0 false 1099511627776 hX0
    rw [show ddSt t.b 0 false = some t.b from rfl, ← HN1.out] at hn1
    refine hn1.mono ?_
    rintro e w2 ⟨rfl, at1, bad1, hd2, hs2, hk2⟩
    have hzW1 : w.heap.size < W1.heap.size := hM1.lt
    have hM2 : Blk w2 w.heap.size 24 #[.int .i64 0, .slice none 0 0] := hk2.blk (hM1.alloc _) (fun e => by have e2 : w.heap.size = W1.heap.size := e; omega)
    have hk02 : Below w.heap.size w w2 := Below.trans (hGw.trans (Grow.alloc _ _)) (hk2.below (fun k hk => by have e2 : k = W1.heap.size := hk; omega) (by simp; omega))
    clear hn1 hX0
    have hzR := hd2.cell.lt
    go_wp2_with fail
    obtain ⟨X2, hX2⟩ : ∃ X2, w2.alloc (.cells #[.int .i64 (N1.1 : Int), .slice none 0 0] 24) = X2 := ⟨_, rfl⟩
    have hG2 : Grow w2 X2 := by rw [← hX2]; exact Grow.alloc _ _
    have hMb2 : Blk X2 w2.heap.size 24 #[.int .i64 (N1.1 : Int), .slice none 0 0] := by rw [← hX2]; exact Blk.new _ _ _
    rw [hX2]
    clear hX2
    have hn2 := dNumber_any X2 W1.heap.size A2 n2 c2 t.b at1 bad1 40 (hd2.grow hG2)
    rw [hs2, ← HN2.out] at hn2
    refine hn2.mono ?_
    rintro e w3 ⟨rfl, at2, bad2, hd3, hs3, hk3⟩
    clear hn2
    have hJ3 : MRJ w W1.heap.size w2.heap.size A2 n2 c2 t.b (N1.1 : Int) [] at2 bad2 w3 := ⟨hd3, ⟨_, [], hk3.blk hMb2 (fun e => by have e2 : w2.heap.size = W1.heap.size := e; omega), ShardsOwn.nil _ _⟩, hk3.blk (Grow.blkOf hG2 hM2) (fun e => by have e2 : w.heap.size = W1.heap.size := e; omega), Below.trans (Below.trans hk02 (Below.mono hG2 hk02.size)) (hk3.below (fun k hk => by have e2 : k = W1.heap.size := hk; omega) (Nat.le_trans hk02.size hG2.size)), hzW1, hzR⟩
    obtain ⟨T, hT⟩ : ∃ T, T = getShards N2.1 N2.2 := ⟨_, rfl⟩
    have hS3 : MRS T t.b N2.1 0 [] at2 bad2 := by
     refine ⟨fun h => ?_, fun h => ?_⟩
     ·rw [hT, ← hs3, h]
      exact getShards_none _
     ·rw [hT, ← hs3, h]
      simp [ddSt]
    have HS3 := Lib.hid hS3
    have HJ3 := Lib.hid hJ3
    have HT := Lib.hid hT
    clear hS3 hJ3 hT hk3 hd3 hs3 hMb2 hG2 hk02 hM2 hk2 hd2 hs2 hp0 hp1
    go_wp2
    go_loopw [9, 10] (fun v9 _ wr => ∃ (k : Nat) (ss : List ShardM) (at_ : Nat) (bad : Bool), k ≤ N2.1 ∧ v9 = .int .i64 (k : Int) ∧ ss.length = k ∧ Hid (MRS T t.b N2.1 k ss at_ bad) ∧ Hid (MRJ w W1.heap.size w2.heap.size A2 n2 c2 t.b (N1.1 : Int) ss at_ bad wr)) (fun v9 _ _ => N2.1 - (intOf v9).toNat)
    case atStart => exact ⟨0, [], at2, bad2, by omega, rfl, rfl, HS3, HJ3⟩
    case round =>
     clear HS3 HJ3
     obtain ⟨k, ss, at_, bad, hk, rfl, hsl, hS, hJ⟩ := hrel
     have hcB := hJ.out.rd.cell.cell 2
     by_cases hlt : k < N2.1
     ·cases bad with
      | true =>
       have hgf : getF b = none := by
        rw [Hgm.out, ← HT.out, if_neg]
        rintro ⟨h, -⟩
        rw [hS.out.1 rfl] at h
        cases h
       have hbl2 := hJ.out.below
       have hM1 := hJ.out.res
       have hcM0 := hM1.cell 0
       have hcM1 := hM1.cell 1
       have hfM0 := hM1.frozen 0
       have hM2 := hM1.set 0 (.int .i64 0)
       have hfM1 := hM2.frozen 1
       have hcM2 := hM2.cell 1
       clear hS
       go_wp2
       have hM3 := hM2.set 1 (.slice none 0 0)
       refine bodyPost_ret (results_cell_slot rfl _ _ w.heap.size _ _ rfl rfl (mload_of hM3)) rfl ⟨?_, Or.inr ⟨hgf, rfl⟩⟩
       exact Below.setCell (Below.setCell hbl2 (Nat.le_refl _) _) (Nat.le_refl _) _
      | false =>
       obtain ⟨G1, hg1⟩ : ∃ G, G = num 1099511627776 (some (t.b.drop at_)) := ⟨_, rfl⟩
       obtain ⟨G2, hg2⟩ : ∃ G, G = num 67108864 G1.2 := ⟨_, rfl⟩
       obtain ⟨G3, hg3⟩ : ∃ G, G = fixed G2.2 := ⟨_, rfl⟩
       obtain ⟨G4, hg4⟩ : ∃ G, G = rising 4000 3999 G3.2 := ⟨_, rfl⟩
       obtain ⟨y, hy⟩ : ∃ y : BitVec 32, y.toNat = G3.1 := ⟨BitVec.ofNat 32 G3.1, by rw [BitVec.toNat_ofNat]; exact Nat.mod_eq_of_lt (by rw [hg3]; exact fixed_lt _)⟩
       have hsh : getShard (some (t.b.drop at_)) = (⟨(G1.1 : Int), (G2.1 : Int), y, G4.1.map fun n : Nat => (n : Int)⟩, G4.2) := by
        have e1 : y = BitVec.ofNat 32 G3.1 := by rw [← hy]; simp
        simp only [getShard]
        rw [← hg1, ← hg2, ← hg3, ← hg4, e1]
       have Hsh := Lib.hid hsh
       have Hy := Lib.hid hy
       have HG1 := Lib.hid hg1
       have HG2 := Lib.hid hg2
       have HG3 := Lib.hid hg3
       have HG4 := Lib.hid hg4
       clear hsh hy hg1 hg2 hg3 hg4
       have q1 := dNumber_any wr W1.heap.size A2 n2 c2 t.b at_ false 1099511627776 hJ.out.rd
       rw [show ddSt t.b at_ false = some (t.b.drop at_) from rfl, ← HG1.out] at q1
       have Q1 := Lib.hid q1
       have hRz := hJ.out.rd.cell.lt
       have hMz := hJ.out.meb
       have hwz := hJ.out.reg
       clear q1
       go_wp2_with fail
       refine Q1.out.mono ?_
       rintro e u1 ⟨rfl, at1, b1, hd1, hs1, hk1⟩
       have hz1 := hk1.size
       go_wp2_with fail
       obtain ⟨X1, hX1⟩ : ∃ X1, u1.alloc (.cells #[.int .i64 (G1.1 : Int), .int .i64 0, .int .u32 0, .slice none 0 0] 52) = X1 := ⟨_, rfl⟩
       have hGX1 : Grow u1 X1 := by rw [← hX1]; exact Grow.alloc _ _
       have hs10 : Blk X1 u1.heap.size 52 #[.int .i64 (G1.1 : Int), .int .i64 0, .int .u32 0, .slice none 0 0] := by rw [← hX1]; exact Blk.new _ _ _
       rw [hX1]
       clear hX1
       have hRs : ¬ Own1 W1.heap.size u1.heap.size := fun e => by have e2 : u1.heap.size = W1.heap.size := e; omega
       have q2 := dNumber_any X1 W1.heap.size A2 n2 c2 t.b at1 b1 67108864 (hd1.grow hGX1)
       rw [hs1, ← HG2.out] at q2
       refine q2.mono ?_
       rintro e u2 ⟨rfl, at2', b2', hd2, hs2, hk2⟩
       have hs20 := hk2.blk hs10 hRs
       have hf2 := hs20.frozen 1
       have hc2' := hs20.cell 1
       clear q2
       go_wp2_with fail
       obtain ⟨X2, hX2⟩ : ∃ X2, u2.setCell ⟨u1.heap.size, 1, none⟩ (.int .i64 (G2.1 : Int)) = X2 := ⟨_, rfl⟩
       have hkX2 : Keep (fun j => j = u1.heap.size) u2 X2 := by rw [← hX2]; exact Keep.setCell u2 ⟨u1.heap.size, 1, none⟩ _
       have hs21 : Blk X2 u1.heap.size 52 #[.int .i64 (G1.1 : Int), .int .i64 (G2.1 : Int), .int .u32 0, .slice none 0 0] := by
        have h := hs20.set 1 (.int .i64 (G2.1 : Int))
        rw [hX2] at h
        simpa using h
       rw [hX2]
       clear hX2 hf2 hc2'
       have hd2' : Rdd X2 W1.heap.size A2 n2 c2 t.b at2' b2' := hd2.kept hkX2 (fun e => hRs e.symm) (fun h0 ad e hs => by
        obtain ⟨b', off', e2, hb', _⟩ := hR2.at_ h0
        rw [e2] at e
        injection e with e
        rw [← e] at hs
        have hs2 : b' = u1.heap.size := hs
        omega)
       have q3 := dFixed_any X2 W1.heap.size A2 n2 c2 t.b at2' b2' hd2'
       rw [hs2, ← HG3.out] at q3
       refine q3.mono ?_
       rintro e u3 ⟨rfl, at3, b3, hd3, hs3, hk3⟩
       have hs30 := hk3.blk hs21 hRs
       have hf3 := hs30.frozen 2
       have hc3' := hs30.cell 2
       clear q3
       go_wp2_with fail
       obtain ⟨X3, hX3⟩ : ∃ X3, u3.setCell ⟨u1.heap.size, 2, none⟩ (.int .u32 (G3.1 : Int)) = X3 := ⟨_, rfl⟩
       have hkX3 : Keep (fun j => j = u1.heap.size) u3 X3 := by rw [← hX3]; exact Keep.setCell u3 ⟨u1.heap.size, 2, none⟩ _
       have hs32 : Blk X3 u1.heap.size 52 #[.int .i64 (G1.1 : Int), .int .i64 (G2.1 : Int), .int .u32 (G3.1 : Int), .slice none 0 0] := by
        have h := hs30.set 2 (.int .u32 (G3.1 : Int))
        rw [hX3] at h
        simpa using h
       rw [hX3]
       clear hX3 hf3 hc3'
       have noA : ∀ (j : Nat), W1.heap.size ≤ j → 0 < n2 → ∀ ad, A2 = some ad → ¬ (ad.block = j) := fun j hj h0 ad e hs => by
        obtain ⟨b', off', e2, hb', _⟩ := hR2.at_ h0
        rw [e2] at e
        injection e with e
        rw [← e] at hs
        have hs2 : b' = j := hs
        omega
       have hd3' : Rdd X3 W1.heap.size A2 n2 c2 t.b at3 b3 := hd3.kept hkX3 (fun e => hRs e.symm) (noA _ (by omega))
       have q4 := dRising_any X3 W1.heap.size A2 n2 c2 t.b at3 b3 4000 3999 hd3' (by omega)
       rw [hs3, ← HG4.out] at q4
       refine q4.mono ?_
       rintro e u4 ⟨row, Br, rfl, hBr, hrow, at4, b4, hd4, hs4, hk4⟩
       obtain ⟨A8, c8, rfl, -, -, -⟩ := own_reads hrow
       have hs40 := hk4.blk hs32 hRs
       obtain ⟨X4, hX4⟩ : ∃ X4, u4.setCell ⟨u1.heap.size, 3, none⟩ (.slice A8 G4.1.length c8) = X4 := ⟨_, rfl⟩
       have hkX4 : Keep (fun j => j = u1.heap.size) u4 X4 := by rw [← hX4]; exact Keep.setCell u4 ⟨u1.heap.size, 3, none⟩ _
       have hs43 : Blk X4 u1.heap.size 52 #[.int .i64 (G1.1 : Int), .int .i64 (G2.1 : Int), .int .u32 (G3.1 : Int), .slice A8 G4.1.length c8] := by
        have h := hs40.set 3 (.slice A8 G4.1.length c8)
        rw [hX4] at h
        simpa using h
       have hK : Keep (fun j => j = W1.heap.size ∨ wr.heap.size ≤ j) wr X4 := by
        have e1 : ∀ (a b : World), Keep (Own1 W1.heap.size) a b → Keep (fun j => j = W1.heap.size ∨ wr.heap.size ≤ j) a b := fun a b h => h.mono fun j hj => Or.inl (Or.inl hj)
        have e2 : ∀ (a b : World), Keep (fun j => j = u1.heap.size) a b → Keep (fun j => j = W1.heap.size ∨ wr.heap.size ≤ j) a b := fun a b h => h.mono fun j hj => Or.inl (Or.inr (by omega))
        exact ((((((((e1 _ _ hk1).trans' (Keep.grow hGX1)).trans' (e1 _ _ hk2)).trans' (e2 _ _ hkX2)).trans' (e1 _ _ hk3)).trans' (e2 _ _ hkX3)).trans' (e1 _ _ hk4)).trans' (e2 _ _ hkX4))
       obtain ⟨v0, vs0, hO0, hP0⟩ := hJ.out.out
       have hOz := hO0.lt
       have hO4 := hK.blk hO0 (fun h => by rcases h with h | h <;> omega)
       have hres4 := hK.blk hJ.out.res (fun h => by rcases h with h | h <;> omega)
       have hP4 := hP0.kept hK fun k hk cs u hu => by
        rcases hk with h | h
        ·rw [h, show wr.heap[W1.heap.size]? = _ from hJ.out.rd.cell] at hu
         cases hu
         decide
        ·rw [Array.getElem?_eq_none h] at hu
         cases hu
       have hrow4 := Keep.own hkX4 hrow fun k hk hs => by
        have h1 := (hrow.lt k hk).1
        have h2 := hs32.lt
        have h3 : k = u1.heap.size := hs
        omega
       have hd4' : Rdd X4 W1.heap.size A2 n2 c2 t.b at4 b4 := hd4.kept hkX4 (fun e => hRs e.symm) (noA _ (by omega))
       have hbl4 : Below w.heap.size w X4 := Below.trans hJ.out.below (hK.below (fun k hk => by have := hJ.out.below.size; rcases hk with h | h <;> omega) hJ.out.below.size)
       have hBrz : wr.heap.size ≤ Br := by have h1 := hs32.lt; omega
       obtain ⟨A9, c9, rfl, -, -, -⟩ := own_reads hP4.own
       have shardTy : AppTy Tryz.prog 22 52 (.agg #[.int .i64 0, .int .i64 0, .int .u32 0, .slice none 0 0]) 4 48 := AppTy.mk' Tryz.underlying22 (by kernel_rfl) rfl (by decide)
       have hvty : ∀ k, (Value.slice A9 ss.length c9).ownBlock = some k → ∃ cur, X4.heap[k]? = some (.cells cur 52 (0, 0)) := fun k hk => own_obj hP4.own hk
       have hnewx : ∀ (j : Nat) (y : Value) (k : Nat), vs0[j]? = some y → y.ownBlock = some k → k < Br := fun j y k h1 h2 => Nat.lt_of_lt_of_le (hP0.lt h1 h2).2 hBrz
       have HP3 := Lib.hid (hP4.grow (Grow.alloc X4 (.cells #[.int .i64 (G1.1 : Int), .int .i64 (G2.1 : Int), .int .u32 (G3.1 : Int), .slice A8 G4.1.length c8] 52)))
       have Hown3 := Lib.hid (own_below hrow4 (Grow.alloc X4 (.cells #[.int .i64 (G1.1 : Int), .int .i64 (G2.1 : Int), .int .u32 (G3.1 : Int), .slice A8 G4.1.length c8] 52)))
       have Hrd3 := Lib.hid (ReadsAt.madeS X4 52 4 [.int .i64 (G1.1 : Int), .int .i64 (G2.1 : Int), .int .u32 (G3.1 : Int), .slice A8 G4.1.length c8] rfl)
       have Hz3 := Lib.hid (show W1.heap.size ≤ (X4.alloc (.cells #[.int .i64 (G1.1 : Int), .int .i64 (G2.1 : Int), .int .u32 (G3.1 : Int), .slice A8 G4.1.length c8] 52)).heap.size from by have h1 := hd4'.cell.lt; simp; omega)
       have HO3 := Lib.hid (hO4.alloc (.cells #[.int .i64 (G1.1 : Int), .int .i64 (G2.1 : Int), .int .u32 (G3.1 : Int), .slice A8 G4.1.length c8] 52))
       have HneO := Lib.hid (show some w2.heap.size ≠ (Value.slice A9 ss.length c9).ownBlock from fun e => by
        obtain ⟨cur, q⟩ := hvty _ e.symm
        rw [show X4.heap[w2.heap.size]? = _ from hO4] at q
        cases q)
       have hcO4 := hO4.cell 1
       have hss0 := hs43.cell 0
       have hss1 := hs43.cell 1
       have hss2 := hs43.cell 2
       have hss3 := hs43.cell 3
       have hf4 := hs40.frozen 3
       have hc4' := hs40.cell 3
       have hsl41 : ss.length + 1 ≤ 41 := by omega
       have Hsl := Lib.hid hsl
       clear q4 hsl hcB
       go_wp2_with (at_builtin; refine wpList_append_reads _ rfl (.tmp 67) (.tmp 69) rfl shardTy rfl HP3.out.own rfl Hrd3.out (by simp [Value.oneCell']) (by simp only [maxLen]; omega) (by omega) Hz3.out ?_; intro v' wq hown4 hgrow4 hat4; obtain ⟨A10, c10, rfl, -, -, -⟩ := own_reads hown4; have hOq := HO3.out.grown hgrow4 HneO.out; have hcO4 := hOq.cell 1; have hfO4 := hOq.frozen 1; have Hown4 := Lib.hid hown4; have Hgrow4 := Lib.hid hgrow4; clear hown4 hgrow4 hat4)
       obtain ⟨Wz, hWz⟩ : ∃ Wz, wq.setCell ⟨w2.heap.size, 1, none⟩ (.slice A10 (ss.length + 1) c10) = Wz := ⟨_, rfl⟩
       have hOz2 : Blk Wz w2.heap.size 24 #[.int .i64 (N1.1 : Int), .slice A10 (ss.length + 1) c10] := by
        have h := hOq.set 1 (.slice A10 (ss.length + 1) c10)
        rw [hWz] at h
        simpa using h
       have hkz : Keep (fun j => j = w2.heap.size) wq Wz := by rw [← hWz]; exact Keep.setCell wq ⟨w2.heap.size, 1, none⟩ _
       try rw [hWz]
       clear hWz
       obtain ⟨s, hs⟩ : ∃ s : ShardM, s = ⟨(G1.1 : Int), (G2.1 : Int), y, G4.1.map fun n : Nat => (n : Int)⟩ := ⟨_, rfl⟩
       have hdl : s.dead.length = G4.1.length := by rw [hs]; simp
       have hdm : s.dead.map i64v = G4.1.map fun n : Nat => .int .i64 (n : Int) := by rw [hs]; simp [i64v, Function.comp_def]
       have hx : (X4.alloc (.cells #[.int .i64 (G1.1 : Int), .int .i64 (G2.1 : Int), .int .u32 (G3.1 : Int), .slice A8 G4.1.length c8] 52)).ownsRow Br 3 1 (.slice A8 G4.1.length c8) s.dead.length (s.dead.map i64v) := by
        rw [hdl, hdm]
        exact Hown3.out
       have hcs : ∀ l : List Value, l ++ [.int .i64 s.num, .int .i64 s.size, .int .u32 (s.sum.toNat : Int), .slice A8 G4.1.length c8] = l ++ [.int .i64 (G1.1 : Int), .int .i64 (G2.1 : Int), .int .u32 (G3.1 : Int), .slice A8 G4.1.length c8] := fun l => by
        rw [hs, ← Hy.out]
       have hP5 := HP3.out.snoc (t := s) hx (by omega) hnewx (by rw [hcs]; exact Hown4.out) Hgrow4.out
       have hPz := hP5.kept hkz fun k hk cs u hu => by
        rw [hk, show wq.heap[w2.heap.size]? = _ from hOq] at hu
        cases hu
        decide
       obtain ⟨S, hSd⟩ : ∃ S : Nat → Prop, S = fun j => j = w2.heap.size ∨ (Value.slice A9 ss.length c9).ownBlock = some j := ⟨_, rfl⟩
       have hSis : ∀ j, S j → (j = w2.heap.size ∨ (Value.slice A9 ss.length c9).ownBlock = some j) := fun j h => by rw [hSd] at h; exact h
       have hSof : ∀ j, (j = w2.heap.size ∨ (Value.slice A9 ss.length c9).ownBlock = some j) → S j := fun j h => by rw [hSd]; exact h
       clear hSd
       have hkf : Keep S X4 Wz := ((Keep.grow (S := S) (Grow.alloc X4 (.cells #[.int .i64 (G1.1 : Int), .int .i64 (G2.1 : Int), .int .u32 (G3.1 : Int), .slice A8 G4.1.length c8] 52))).trans' ((Keep.grown Hgrow4.out).mono fun j hj => Or.inl (hSof j (Or.inr hj)))).trans' (hkz.mono fun j hj => Or.inl (hSof j (Or.inl hj)))
       have hSty : ∀ j, S j → ∀ cs u, X4.heap[j]? = some (.cells cs u (0, 0)) → u = 24 ∨ u = 52 := fun j hj cs u hu => by
        rcases hSis j hj with h | h
        ·rw [h, show X4.heap[w2.heap.size]? = _ from hO4] at hu; cases hu; exact Or.inl rfl
        ·obtain ⟨cur, q⟩ := hvty j h
         rw [q] at hu; cases hu; exact Or.inr rfl
       have hSR : ¬ S W1.heap.size := fun h => by
        rcases hSty _ h _ _ hd4'.cell with e | e <;> exact absurd e (by decide)
       have hSw : ¬ S w.heap.size := fun h => by
        rcases hSis _ h with e | e
        ·omega
        ·have := (hP4.own.lt _ e).1; omega
       have hMRS : MRS T t.b N2.1 (k + 1) (ss ++ [s]) at4 b4 := by
        have h := hS.out.2 rfl
        rw [show N2.1 - k = (N2.1 - (k + 1)) + 1 by omega] at h
        refine ⟨fun hb => ?_, fun hb => ?_⟩
        ·have e : (getShard (some (t.b.drop at_))).2 = none := by rw [Hsh.out]; show G4.2 = none; rw [← hs4, hb]; rfl
         rw [h, getShards_no e]
        ·have e : (getShard (some (t.b.drop at_))).2 = some (t.b.drop at4) := by rw [Hsh.out]; show G4.2 = _; rw [← hs4, hb]; rfl
         rw [h, getShards_yes e, Hsh.out, ← hs]
         simp
       have hMRJ : MRJ w W1.heap.size w2.heap.size A2 n2 c2 t.b (N1.1 : Int) (ss ++ [s]) at4 b4 Wz := by
        refine ⟨hd4'.kept hkf hSR (fun h0 ad e hs2 => ?_), ⟨_, _, hOz2, hPz⟩, hkf.blk hres4 hSw, Below.trans hbl4 (hkf.below (fun j hj => ?_) hbl4.size), hwz, hMz⟩
        ·rcases hSis _ hs2 with e2 | e2
         ·exact noA _ (by omega) h0 ad e e2
         ·exact noA _ (hP4.own.lt _ e2).1 h0 ad e rfl
        ·rcases hSis _ hj with e2 | e2
         ·omega
         ·have := (hP4.own.lt _ e2).1; omega
       exact ⟨⟨k + 1, ss ++ [s], at4, b4, by omega, by go_num, by rw [List.length_append, Hsl.out]; rfl, hMRS, hMRJ⟩, by simp [intOf]; omega⟩
     ·obtain rfl : k = N2.1 := by omega
      cases bad with
      | true =>
       have hgf : getF b = none := by
        rw [Hgm.out, ← HT.out, if_neg]
        rintro ⟨h, -⟩
        rw [hS.out.1 rfl] at h
        cases h
       have hbl2 := hJ.out.below
       have hM1 := hJ.out.res
       have hcM0 := hM1.cell 0
       have hcM1 := hM1.cell 1
       have hfM0 := hM1.frozen 0
       have hM2 := hM1.set 0 (.int .i64 0)
       have hfM1 := hM2.frozen 1
       have hcM2 := hM2.cell 1
       clear hS
       go_wp2
       have hM3 := hM2.set 1 (.slice none 0 0)
       refine bodyPost_ret (results_cell_slot rfl _ _ w.heap.size _ _ rfl rfl (mload_of hM3)) rfl ⟨?_, Or.inr ⟨hgf, rfl⟩⟩
       exact Below.setCell (Below.setCell hbl2 (Nat.le_refl _) _) (Nat.le_refl _) _
      | false =>
       have hTT : T = (ss, some (t.b.drop at_)) := by
        have h := hS.out.2 rfl
        rw [Nat.sub_self, getShards, List.append_nil] at h
        exact h
       have hLe := dLeft_any wr W1.heap.size A2 n2 c2 t.b at_ false hJ.out.rd
       rw [dd_left] at hLe
       obtain ⟨lf, hlf⟩ : ∃ lf, t.b.length - at_ = lf := ⟨_, rfl⟩
       rw [hlf] at hLe
       have Hlf := Lib.hid hlf
       have HLe := Lib.hid hLe
       clear hlf
       have hgm : getF b = if (some (t.b.drop at_) : St) = some [] ∧ maniRight ⟨(N1.1 : Int), ss⟩ = true then some ⟨(N1.1 : Int), ss⟩ else none := by rw [Hgm.out, ← HT.out, hTT]
       by_cases hl0 : lf = 0
       ·subst hl0
        obtain ⟨v, vs, hO, hP2⟩ := hJ.out.out
        have hTs : ∀ s ∈ ss, s.dead.length ≤ 17592186044416 ∧ Wide64 s.num ∧ Wide64 s.size ∧ ∀ x ∈ s.dead, Wide64 x := fun s hs => getShards_small N2.1 N2.2 s (by rw [← HT.out, hTT]; exact hs)
        obtain ⟨A10, c10, rfl, h1, h2, h3⟩ := hP2.reads hTs
        have hA : ManiAt wr wr.heap.size (.agg #[.int .i64 (N1.1 : Int), .slice A10 ss.length c10]) ⟨(N1.1 : Int), ss⟩ := ⟨⟨A10, _, c10, rfl, h1, h2, by omega, h3⟩, by unfold Wide64; exact ⟨by simp only []; omega, by simp only []; omega⟩⟩
        obtain ⟨r, hr⟩ : ∃ r, r = maniRight ⟨(N1.1 : Int), ss⟩ := ⟨_, rfl⟩
        have Hr := Lib.hid hr
        have HA := Lib.hid hA
        have hcO0 := hO.cell 0
        have hcO1 := hO.cell 1
        have HP2 := Lib.hid hP2
        have HTs := Lib.hid hTs
        have hln : t.b.drop at_ = [] := List.drop_eq_nil_of_le (by have := Hlf.out; omega)
        have hssl : ss.length ≤ 40 := by omega
        have Hssl := Lib.hid hssl
        clear hr hA h3 hLe hsl hssl
        go_wp2_with fail
        refine HLe.out.mono ?_
        rintro e w4 ⟨rfl, q4, hq4⟩
        have hG4 : Grow wr w4 := by rw [← hq4]; exact Grow.drewN _ _
        clear hq4
        have hO4 := Grow.blkOf hG4 hO
        have hR4 := Grow.blkOf hG4 hJ.out.res
        have hb4 := hJ.out.below.trans (Below.mono hG4 hJ.out.below.size)
        have HA4 := Lib.hid (HA.out.grow (Nat.le_refl _) hG4)
        clear hcO0 hcO1 hO HLe
        have hcO0 := hO4.cell 0
        have hcO1 := hO4.cell 1
        go_wp2_with fail
        refine Calls.mono (show Calls _ _ #[.agg #[.int .i64 (N1.1 : Int), .slice A10 ss.length c10]] _ _ from mrRight_any w4 _ ⟨(N1.1 : Int), ss⟩ HA4.out r Hr) ?_
        rintro e w5 ⟨rfl, hG5⟩
        have hO5 := Grow.blkOf hG5 hO4
        have hb5 := Below.trans hb4 (Below.mono hG5 hb4.size)
        have HA5 := Lib.hid (HA4.out.grow (Nat.le_refl _) hG5)
        clear hcO0 hcO1 hO4
        cases r with
        | false =>
         have hgf : getF b = none := by
          rw [hgm, if_neg]
          rintro ⟨-, h⟩
          rw [← Hr.out] at h
          cases h
         have hM1 := Grow.blkOf hG5 hR4
         have hcM0 := hM1.cell 0
         have hcM1 := hM1.cell 1
         have hfM0 := hM1.frozen 0
         have hM2 := hM1.set 0 (.int .i64 0)
         have hfM1 := hM2.frozen 1
         have hcM2 := hM2.cell 1
         clear hS hgm
         go_wp2
         have hM3 := hM2.set 1 (.slice none 0 0)
         refine bodyPost_ret (results_cell_slot rfl _ _ w.heap.size _ _ rfl rfl (mload_of hM3)) rfl ⟨?_, Or.inr ⟨hgf, rfl⟩⟩
         exact Below.setCell (Below.setCell hb5 (Nat.le_refl _) _) (Nat.le_refl _) _
        | true =>
         have hgf : getF b = some ⟨(N1.1 : Int), ss⟩ := by
          rw [hgm, if_pos]
          exact ⟨by rw [hln], Hr.out.symm⟩
         have hM1 := Grow.blkOf hG5 hR4
         have hcM0 := hM1.cell 0
         have hcM1 := hM1.cell 1
         have hfM0 := hM1.frozen 0
         have hM2 := hM1.set 0 (.int .i64 (N1.1 : Int))
         have hfM1 := hM2.frozen 1
         have hcM2 := hM2.cell 1
         have hcO0 := hO5.cell 0
         have hcO1 := hO5.cell 1
         clear hS hgm
         go_wp2
         obtain ⟨W, hW⟩ : ∃ W, (w5.setCell ⟨w.heap.size, 0, none⟩ (.int .i64 (N1.1 : Int))).setCell ⟨w.heap.size, 1, none⟩ (.slice A10 ss.length c10) = W := ⟨_, rfl⟩
         have hM3 : Blk W w.heap.size 24 #[.int .i64 (N1.1 : Int), .slice A10 ss.length c10] := by
          have h := hM2.set 1 (.slice A10 ss.length c10)
          rw [hW] at h
          simpa using h
         have hk : Keep (fun j => j = w.heap.size) w5 W := by
          rw [← hW]
          exact ((Keep.setCell w5 ⟨w.heap.size, 0, none⟩ _).trans' (Keep.setCell _ ⟨w.heap.size, 1, none⟩ _))
         rw [hW]
         clear hW
         have hP5 := HP2.out.grow (hG4.trans hG5)
         have hPz := hP5.kept hk fun k hk cs u hu => by
          rw [hk, show w5.heap[w.heap.size]? = _ from hM1] at hu
          cases hu
          decide
         obtain ⟨A11, c11, e11, h1', h2', h3'⟩ := hPz.reads HTs.out
         injection e11 with e1 e2 e3
         subst e1 e3
         have hz : ss.length ≤ 4398046510976 := by have := Hssl.out; omega
         refine bodyPost_ret (results_cell_slot rfl _ _ w.heap.size _ _ rfl rfl (mload_of hM3)) rfl ⟨Below.trans hb5 (hk.below (fun k hk => by omega) hb5.size), Or.inl ⟨⟨(N1.1 : Int), ss⟩, A10, c10, hgf, rfl, ⟨⟨A10, _, c10, rfl, h1', h2', hz, h3'⟩, by unfold Wide64; exact ⟨by simp only []; omega, by simp only []; omega⟩⟩⟩⟩
       ·have dl : ((lf : Int) == 0) = false := by rw [beq_eq_false_iff_ne]; omega
        have hgf : getF b = none := by
         rw [hgm, if_neg]
         rintro ⟨h, -⟩
         injection h with h
         have := congrArg List.length h
         rw [List.length_drop, Hlf.out] at this
         exact hl0 this
        have hR3 := hJ.out.res
        have hb3 := hJ.out.below
        clear hLe
        go_wp2_with fail
        refine HLe.out.mono ?_
        rintro e w4 ⟨rfl, q4, hq4⟩
        have hG4 : Grow wr w4 := by rw [← hq4]; exact Grow.drewN _ _
        clear hq4
        have hb4 := hb3.trans (Below.mono hG4 hb3.size)
        have hM1 := Grow.blkOf hG4 hR3
        have hcM0 := hM1.cell 0
        have hcM1 := hM1.cell 1
        have hfM0 := hM1.frozen 0
        have hM2 := hM1.set 0 (.int .i64 0)
        have hfM1 := hM2.frozen 1
        have hcM2 := hM2.cell 1
        clear hS hgm
        go_wp2
        have hM3 := hM2.set 1 (.slice none 0 0)
        refine bodyPost_ret (results_cell_slot rfl _ _ w.heap.size _ _ rfl rfl (mload_of hM3)) rfl ⟨?_, Or.inr ⟨hgf, rfl⟩⟩
        exact Below.setCell (Below.setCell hb4 (Nat.le_refl _) _) (Nat.le_refl _) _
   ·have d2 : ((t.tag.toNat : Int) == 1) = false := by rw [beq_eq_false_iff_ne]; intro h; exact htag (UInt8.toNat_inj.1 (by show t.tag.toNat = 1; omega))
    have hgf : getF b = none := by
     rw [getF, hgb]
     obtain ⟨tag, p⟩ := t
     split
     ·rename_i h; simp at h; exact absurd h.1 htag
     ·rfl
    have hcM0 := hM1.cell 0
    have hcM1 := hM1.cell 1
    have hfM0 := hM1.frozen 0
    have hM2 := hM1.set 0 (.int .i64 0)
    have hfM1 := hM2.frozen 1
    have hcM2 := hM2.cell 1
    clear hP h13
    go_wp2
    have hM3 := hM2.set 1 (.slice none 0 0)
    refine bodyPost_ret (results_cell_slot rfl _ _ w.heap.size _ _ rfl rfl (mload_of hM3)) rfl ⟨?_, Or.inr ⟨hgf, rfl⟩⟩
    exact Below.setCell (Below.setCell hGw (Nat.le_refl _) _) (Nat.le_refl _) _
  ·have d1 : ((ts.length : Int) == 1) = false := by rw [beq_eq_false_iff_ne]; omega
   have hgf : getF b = none := by
    rw [getF, hgb]
    split
    ·rename_i h; simp at h; rw [h] at hlen; simp at hlen
    ·rfl
   have hcM0 := hM1.cell 0
   have hcM1 := hM1.cell 1
   have hfM0 := hM1.frozen 0
   have hM2 := hM1.set 0 (.int .i64 0)
   have hfM1 := hM2.frozen 1
   have hcM2 := hM2.cell 1
   clear hP h13
   go_wp2
   have hM3 := hM2.set 1 (.slice none 0 0)
   refine bodyPost_ret (results_cell_slot rfl _ _ w.heap.size _ _ rfl rfl (mload_of hM3)) rfl ⟨?_, Or.inr ⟨hgf, rfl⟩⟩
   exact Below.setCell (Below.setCell hGw (Nat.le_refl _) _) (Nat.le_refl _) _
 ·have hM1 := Grow.blkOf hG1 hM0
  have hcM0 := hM1.cell 0
  have hcM1 := hM1.cell 1
  have hfM0 := hM1.frozen 0
  have hM2 := hM1.set 0 (.int .i64 0)
  have hfM1 := hM2.frozen 1
  have hcM2 := hM2.cell 1
  have hGw := hG0.trans hG1
  have hgf : getF b = none := by rw [getF, hgb]
  go_wp2
  have hM3 := hM2.set 1 (.slice none 0 0)
  refine bodyPost_ret (results_cell_slot rfl _ _ w.heap.size _ _ rfl rfl (mload_of hM3)) rfl ⟨?_, Or.inr ⟨hgf, rfl⟩⟩
  exact Below.setCell (Below.setCell hGw (Nat.le_refl _) _) (Nat.le_refl _) _
end Go.Proofs.YtcimkoehcdfjdaaGreatDoor

namespace Go.Proofs.YtcimkoehcdfjdaaGreatDoor
open Go.RowKit WireM
set_option linter.unusedVariables false

theorem mrGet_yes (w : World) (B : Nat) (A : Option Addr) (n c : Nat) (b : List UInt8) (m : ManiM) (hg : getF b = some m) (hR : BytesAt w B A n b) (hB : B ≤ w.heap.size) (hnc : n ≤ c) (hc : c ≤ maxLen) (hn : n ≤ 67108864) :
  Calls Tryz.prog 52 #[.slice A n c] w fun e w' => ∃ A2 c2, e = .returned (.tuple #[.agg #[.int .i64 m.gen, .slice A2 m.shards.length c2], .int .i64 0]) ∧ ManiAt w' w'.heap.size (.agg #[.int .i64 m.gen, .slice A2 m.shards.length c2]) m ∧ Grow w w' :=
 (mrGet_any w B A n c b hR hB hnc hc hn).mono fun e w' ⟨hG, h⟩ => by
  rcases h with ⟨m2, A2, c2, h1, rfl, h3⟩ | ⟨h1, _⟩
  ·rw [hg] at h1
   injection h1 with h1
   subst h1
   exact ⟨A2, c2, rfl, h3, hG⟩
  ·rw [hg] at h1
   cases h1
theorem mrGet_no (w : World) (B : Nat) (A : Option Addr) (n c : Nat) (b : List UInt8) (hg : getF b = none) (hR : BytesAt w B A n b) (hB : B ≤ w.heap.size) (hnc : n ≤ c) (hc : c ≤ maxLen) (hn : n ≤ 67108864) :
  Calls Tryz.prog 52 #[.slice A n c] w fun e w' => e = .returned (.tuple #[.agg #[.int .i64 0, .slice none 0 0], .int .i64 9]) ∧ Grow w w' :=
 (mrGet_any w B A n c b hR hB hnc hc hn).mono fun e w' ⟨hG, h⟩ => by
  rcases h with ⟨m2, A2, c2, h1, _⟩ | ⟨_, h2⟩
  ·rw [hg] at h1
   cases h1
  ·exact ⟨h2, hG⟩
set_option maxRecDepth 100000 in
set_option maxHeartbeats 2000000 in
theorem gets25_any (w : World) (B : Nat) (A : Option Addr) (n c : Nat) (b : List UInt8) (hR : BytesAt w B A n b) (hB : B ≤ w.heap.size) (hnc : n ≤ c) (hc : c ≤ maxLen) (hn : n ≤ 67108864) :
  Calls Tryz.prog 19 #[.slice A n c] w fun e w' => e = .returned (.bool true) ∧ Grow w w' := by
 cases hg : getF b with
 | none =>
  go_enter Tryz.func19, Tryz.ntmps19
  go_wp2_with fail
  refine (MGet_no w B A n c b hg hR hB hnc hc hn).mono ?_
  rintro e w1 ⟨rfl, hg1⟩
  go_wp2_with fail
  have hG1 : Grow w (w1.alloc (.cells #[.int .i64 0, .slice none 0 0] 24)) := hg1.trans (Grow.alloc _ _)
  refine (mrGet_no _ B A n c b hg (hR.below (Below.mono hG1 hB)) (Nat.le_trans hB hG1.size) hnc hc hn).mono ?_
  rintro e w2 ⟨rfl, hg2⟩
  have hn1 := Grow.blkOf hg2 (Blk.new w1 24 #[.int .i64 0, .slice none 0 0])
  have hc0 := hn1.cell 0
  have hc1 := hn1.cell 1
  have hlz := hn1.lt
  have hGz : Grow w (w2.alloc (.cells #[.int .i64 0, .slice none 0 0] 24)) := (hG1.trans hg2).trans (Grow.alloc _ _)
  go_wp2_with fail
  refine (SameManifest_any _ _ _ ⟨0, []⟩ ⟨0, []⟩ (ManiAt.zero _) (ManiAt.zero _) true (sameManiB_iff.2 rfl).symm).mono ?_
  rintro e w3 ⟨rfl, hg3⟩
  go_wp2
  go_ret
  exact ⟨rfl, hGz.trans hg3⟩
 | some m =>
  go_enter Tryz.func19, Tryz.ntmps19
  go_wp2_with fail
  refine (MGet_yes w B A n c b m hg hR hB hnc hc hn).mono ?_
  rintro e w1 ⟨A2, c2, rfl, hM1, hg1⟩
  go_wp2_with fail
  have hG1 : Grow w (w1.alloc (.cells #[.int .i64 m.gen, .slice A2 m.shards.length c2] 24)) := hg1.trans (Grow.alloc _ _)
  refine (mrGet_yes _ B A n c b m hg (hR.below (Below.mono hG1 hB)) (Nat.le_trans hB hG1.size) hnc hc hn).mono ?_
  rintro e w2 ⟨A3, c3, rfl, hM2, hg2⟩
  have hn1 := Grow.blkOf hg2 (Blk.new w1 24 #[.int .i64 m.gen, .slice A2 m.shards.length c2])
  have hc0 := hn1.cell 0
  have hc1 := hn1.cell 1
  have hlz := hn1.lt
  have hGz : Grow w (w2.alloc (.cells #[.int .i64 m.gen, .slice A3 m.shards.length c3] 24)) := (hG1.trans hg2).trans (Grow.alloc _ _)
  have HA := Lib.hid ((hM1.grow (Nat.le_refl _) (Grow.alloc w1 (.cells #[.int .i64 m.gen, .slice A2 m.shards.length c2] 24))).grow (Nat.le_refl _) (hg2.trans (Grow.alloc _ (.cells #[.int .i64 m.gen, .slice A3 m.shards.length c3] 24))))
  have HB := Lib.hid (hM2.grow (Nat.le_refl _) (Grow.alloc w2 (.cells #[.int .i64 m.gen, .slice A3 m.shards.length c3] 24)))
  clear hM1 hM2
  go_wp2_with fail
  refine (SameManifest_any _ _ _ m m HA.out HB.out true (sameManiB_iff.2 rfl).symm).mono ?_
  rintro e w3 ⟨rfl, hg3⟩
  go_wp2
  go_ret
  exact ⟨rfl, hGz.trans hg3⟩
end Go.Proofs.YtcimkoehcdfjdaaGreatDoor

namespace Go.Proofs.YtcimkoehcdfjdaaGreatDoor
open Go.RowKit WireM
set_option linter.unusedVariables false

theorem PartsAt.pair {w : World} {B g n c : Nat} {A : Option Addr} {t1 t2 : UInt8} {b : List UInt8} (hb : Blk w g 40 #[.int .u8 (t1.toNat : Int), .slice A n c, .int .u8 (t2.toNat : Int), .slice none 0 0]) (hg : g < B) (hr : BytesAt w B A n b) (hn : n ≤ c) (hc : c ≤ maxLen) (hs : n ≤ 140737488351232) : PartsAt w B (some ⟨g, 0, none⟩) 2 [⟨t1, b⟩, ⟨t2, []⟩] := by
 refine ⟨rfl, fun _ => ⟨g, 0, rfl, hg, fun j t hj => ?_⟩⟩
 match j, hj with
 | 0, hj =>
  obtain rfl : (⟨t1, b⟩ : PartM) = t := by simpa using hj
  refine ⟨[.int .u8 (t1.toNat : Int), .slice A n c], rfl, ⟨A, n, c, rfl, hn, hc, hs, hr⟩, fun i u hu => ?_⟩
  rw [hb.cell, Nat.zero_mul]
  simp only [Nat.zero_add]
  match i, hu with
  | 0, hu => simpa using hu
  | 1, hu => simpa using hu
 | 1, hj =>
  obtain rfl : (⟨t2, []⟩ : PartM) = t := by simpa using hj
  refine ⟨[.int .u8 (t2.toNat : Int), .slice none 0 0], rfl, ⟨none, 0, 0, rfl, Nat.le_refl _, by unfold maxLen; omega, by omega, BytesAt.nil⟩, fun i u hu => ?_⟩
  rw [hb.cell]
  match i, hu with
  | 0, hu => simpa using hu
  | 1, hu => simpa using hu
 | j + 2, hj => simp at hj
theorem file_one_short {l : List UInt8} (h : l.length ≤ 3000) (t : UInt8) : (fileB [⟨t, l⟩]).length ≤ 3100 := by
 have h2 := enc_len6 l.length (by omega)
 rw [fileB_len]
 simp only [bodyB, partB, List.length_append, List.length_cons, List.length_nil]
 omega
theorem file_two_short {l : List UInt8} (h : l.length ≤ 3000) (t u : UInt8) : (fileB [⟨t, l⟩, ⟨u, []⟩]).length ≤ 3200 := by
 have h2 := enc_len6 l.length (by omega)
 have h3 := enc_len6 0 (by omega)
 rw [fileB_len]
 simp only [bodyB, partB, List.length_append, List.length_cons, List.length_nil]
 omega
theorem MGet_own (w : World) (B : Nat) (A : Option Addr) (n c : Nat) (b : List UInt8) (hR : BytesAt w B A n b) (hB : B ≤ w.heap.size) (hnc : n ≤ c) (hc : c ≤ maxLen) (hn : n ≤ 67108864) :
  Calls Tryz.prog 18 #[.slice A n c] w fun e w' => ∃ (gen : Int) (A2 : Option Addr) (c2 : Nat) (ts : List ShardM) (vs : List Value) (x : Int), e = .returned (.tuple #[.agg #[.int .i64 gen, .slice A2 ts.length c2], .int .i64 x]) ∧ ShardsOwn w.heap.size w' (.slice A2 ts.length c2) ts vs ∧ ts.length ≤ 40 ∧ (∀ t ∈ ts, t.dead.length ≤ 1000000) ∧ Grow w w' :=
 (MGet_any w B A n c b hR hB hnc hc hn).mono fun e w' ⟨hG, h⟩ => by
  rcases h with ⟨m2, v, vs, h1, rfl, hP⟩ | ⟨_, rfl⟩
  ·have hr := getF_right h1
   obtain ⟨q1, q2, q3, q4, -⟩ := mani_right hr
   obtain ⟨A2, c2, e2, -, -, -⟩ := own_reads hP.own
   rw [e2] at hP ⊢
   exact ⟨m2.gen, A2, c2, m2.shards, vs, 0, rfl, hP, q3, fun t ht => by
    obtain ⟨-, -, -, -, -, h5⟩ := shard_dead (List.all_eq_true.1 q4 t ht)
    omega, hG⟩
  ·exact ⟨0, none, 0, [], [], 9, rfl, ShardsOwn.nil _ _, by decide, fun t ht => by simp at ht, hG⟩

theorem distV_both {a b : List Value} (ha : DistV a) (hb : DistV b) (hab : ∀ (i j : Nat) (x y : Value) (k : Nat), a[i]? = some x → b[j]? = some y → x.ownBlock = some k → y.ownBlock ≠ some k) : DistV (a ++ b) := by
 intro i j v v' k hi hj hij h1 h2
 rw [List.getElem?_append] at hi hj
 split at hi <;> split at hj
 ·exact ha i j v v' k hi hj hij h1 h2
 ·exact hab _ _ v v' k hi hj h1 h2
 ·exact hab _ _ v' v k hj hi h2 h1
 ·exact hb _ _ v v' k hi hj (by omega) h1 h2

set_option maxRecDepth 100000 in
set_option maxHeartbeats 4000000 in
theorem mgets_walk (w : World) (A : Option Addr) (n c : Nat) (b : List UInt8) (tag : UInt8) (hR : BytesAt w w.heap.size A n b) (hnc : n ≤ c) (hc : c ≤ maxLen) (hL : LaidOk w) :
  Calls Tryz.prog 4 #[.slice A n c, .int .u8 (tag.toNat : Int)] w fun e w' => e = .returned (.bool true) ∧ Below w.heap.size w w' := by
 have hlen := hR.len
 have HR := Lib.hid hR
 have Hlen := Lib.hid hlen
 have hc2 := hc
 unfold maxLen at hc2
 clear hlen hR
 go_enter Tryz.func4, Tryz.ntmps4
 by_cases hn : 3000 < n
 ·have d1 : decide ((3000 : Int) < (n : Int)) = true := decide_eq_true (by omega)
  go_wp2_with fail
  refine (awake25_any w hL).mono ?_
  rintro e w1 ⟨rfl, hg1⟩
  go_wp2
  go_ret
  exact ⟨rfl, hg1⟩
 ·have d1 : decide ((3000 : Int) < (n : Int)) = false := decide_eq_false (by omega)
  go_wp2_with fail
  refine (LentBytes_any w w.heap.size A n c b HR.out (Nat.le_refl _) (by omega)).mono ?_
  rintro e w1 ⟨rfl, hLt1, hg1'⟩
  have hg1 : Grow w w1 := hg1'
  clear hg1'
  have HLt1 := Lib.hid hLt1
  have hlt1 : w.heap.size < w1.heap.size := hLt1.lt
  clear hLt1
  go_wp2_with fail
  -- the file of one part
  obtain ⟨W2, hW2⟩ : ∃ W2, w1.alloc (.cells #[.int .u8 1, .slice A n c] 40) = W2 := ⟨_, rfl⟩
  have hG2 : Grow w1 W2 := by rw [← hW2]; exact Grow.alloc _ _
  have hgA2 := hg1.trans hG2
  have hT : PartsAt W2 W2.heap.size (some ⟨w1.heap.size, 0, none⟩) 1 [⟨1, b⟩] := by
   refine PartsAt.one (tag := 1) (by rw [← hW2]; exact Blk.new _ _ _) (by rw [← hW2]; simp) ((HR.out.below hgA2).more hgA2.size) hnc hc (by omega)
  have hF1l : (fileB [⟨1, b⟩]).length ≤ 3100 := file_one_short (by rw [Hlen.out]; omega) 1
  have hP := rPut_any W2 (some ⟨w1.heap.size, 0, none⟩) 1 1 [⟨1, b⟩] hT (by omega) (by omega)
  obtain ⟨F1, hF1⟩ : ∃ F, F = fileB [⟨1, b⟩] := ⟨_, rfl⟩
  rw [← hF1] at hP hF1l
  rw [hW2]
  clear hW2 hT hF1
  refine hP.mono ?_
  rintro e w3 ⟨r1, rfl, ho1, hg3⟩
  obtain ⟨A1, c1, rfl, h11, h12, h13⟩ := own_reads ho1
  obtain ⟨N1, hN1⟩ : ∃ N, N = F1.length := ⟨_, rfl⟩
  rw [← hN1] at h11 h13 hF1l ⊢
  have HF1 : Hid (BytesAt w3 w3.heap.size A1 N1 F1) := h13
  have HG3 := Lib.hid (hgA2.trans hg3)
  have HG13 := Lib.hid (hG2.trans hg3)
  clear hP ho1 h13 hN1 hg3 hG2 hgA2
  go_wp2_with fail
  -- the file of a part of each tag
  obtain ⟨W4, hW4⟩ : ∃ W4, w3.alloc (.cells #[.int .u8 (tag.toNat : Int), .slice A n c] 40) = W4 := ⟨_, rfl⟩
  have hG4 : Grow w3 W4 := by rw [← hW4]; exact Grow.alloc _ _
  have hgA4 := HG3.out.trans hG4
  have hT : PartsAt W4 W4.heap.size (some ⟨w3.heap.size, 0, none⟩) 1 [⟨tag, b⟩] := by
   refine PartsAt.one (tag := tag) (by rw [← hW4]; exact Blk.new _ _ _) (by rw [← hW4]; simp) ((HR.out.below hgA4).more hgA4.size) hnc hc (by omega)
  have hF2l : (fileB [⟨tag, b⟩]).length ≤ 3100 := file_one_short (by rw [Hlen.out]; omega) tag
  have hP := rPut_any W4 (some ⟨w3.heap.size, 0, none⟩) 1 1 [⟨tag, b⟩] hT (by omega) (by omega)
  obtain ⟨F2, hF2⟩ : ∃ F, F = fileB [⟨tag, b⟩] := ⟨_, rfl⟩
  rw [← hF2] at hP hF2l
  rw [hW4]
  clear hW4 hT hF2
  refine hP.mono ?_
  rintro e w5 ⟨r2, rfl, ho2, hg5⟩
  obtain ⟨A2, c2, rfl, h21, h22, h23⟩ := own_reads ho2
  obtain ⟨N2, hN2⟩ : ∃ N, N = F2.length := ⟨_, rfl⟩
  rw [← hN2] at h21 h23 hF2l ⊢
  have HF2 : Hid (BytesAt w5 w5.heap.size A2 N2 F2) := h23
  have HG5 := Lib.hid (hgA4.trans hg5)
  have HG35 := Lib.hid (hG4.trans hg5)
  clear hP ho2 h23 hN2 hg5 hG4 hgA4
  go_wp2_with fail
  -- the file of two parts
  obtain ⟨W6, hW6⟩ : ∃ W6, w5.alloc (.cells #[.int .u8 1, .slice A n c, .int .u8 (tag.toNat : Int), .slice none 0 0] 40) = W6 := ⟨_, rfl⟩
  have hG6 : Grow w5 W6 := by rw [← hW6]; exact Grow.alloc _ _
  have hgA6 := HG5.out.trans hG6
  have hT : PartsAt W6 W6.heap.size (some ⟨w5.heap.size, 0, none⟩) 2 [⟨1, b⟩, ⟨tag, []⟩] := by
   refine PartsAt.pair (t1 := 1) (by rw [← hW6]; exact Blk.new _ _ _) (by rw [← hW6]; simp) ((HR.out.below hgA6).more hgA6.size) hnc hc (by omega)
  have hF3l : (fileB [⟨1, b⟩, ⟨tag, []⟩]).length ≤ 3200 := file_two_short (by rw [Hlen.out]; omega) 1 tag
  have hP := rPut_any W6 (some ⟨w5.heap.size, 0, none⟩) 2 2 [⟨1, b⟩, ⟨tag, []⟩] hT (by omega) (by omega)
  obtain ⟨F3, hF3⟩ : ∃ F, F = fileB [⟨1, b⟩, ⟨tag, []⟩] := ⟨_, rfl⟩
  rw [← hF3] at hP hF3l
  rw [hW6]
  clear hW6 hT hF3
  refine hP.mono ?_
  rintro e w7 ⟨r3, rfl, ho3, hg7⟩
  obtain ⟨A3, c3, rfl, h31, h32, h33⟩ := own_reads ho3
  obtain ⟨N3, hN3⟩ : ∃ N, N = F3.length := ⟨_, rfl⟩
  rw [← hN3] at h31 h33 hF3l ⊢
  have HF3 : Hid (BytesAt w7 w7.heap.size A3 N3 F3) := h33
  have HG7 := Lib.hid (hgA6.trans hg7)
  have HG57 := Lib.hid (hG6.trans hg7)
  have HG37 := Lib.hid (HG35.out.trans HG57.out)
  clear hP ho3 h33 hN3 hg7 hG6 hgA6
  go_wp2_with fail
  -- what is got, twice
  refine (MGet_own w7 w3.heap.size A1 N1 c1 F1 (HF1.out.below HG37.out) HG37.out.size h11 h12 (by omega)).mono ?_
  rintro e w8 ⟨gx, Ax, cx, tx, vx, ex, rfl, hX, hx40, hxd, hg8⟩
  obtain ⟨nx, hnx⟩ : ∃ N, N = tx.length := ⟨_, rfl⟩
  rw [← hnx] at hX ⊢
  have Hbx := Lib.hid (show ∀ k, (Value.slice Ax nx cx).ownBlock = some k → w7.heap.size ≤ k ∧ k < w8.heap.size from hX.own.lt)
  have Hvx := Lib.hid (show ∀ (j : Nat) (x : Value) (k : Nat), vx[j]? = some x → x.ownBlock = some k → w7.heap.size ≤ k ∧ k < w8.heap.size from fun j x k h1 h2 => hX.lt h1 h2)
  have HX := Lib.hid hX
  have Hxd := Lib.hid hxd
  have Hnx := Lib.hid hnx
  have HG8 := Lib.hid (HG7.out.trans hg8)
  have HG38 := Lib.hid (HG37.out.trans hg8)
  have Hg8 := Lib.hid hg8
  clear hX hxd hnx hg8
  go_wp2_with fail
  obtain ⟨W9, hW9⟩ : ∃ W9, w8.alloc (.cells #[.int .i64 gx, .slice Ax nx cx] 24) = W9 := ⟨_, rfl⟩
  have hG9 : Grow w8 W9 := by rw [← hW9]; exact Grow.alloc _ _
  have hBx : Blk W9 w8.heap.size 24 #[.int .i64 gx, .slice Ax nx cx] := by rw [← hW9]; exact Blk.new _ _ _
  have HG9 := Lib.hid (HG38.out.trans hG9)
  have Hg9 := Lib.hid (Hg8.out.trans hG9)
  have HG89 := Lib.hid hG9
  have HX9 := Lib.hid (HX.out.grow hG9)
  try rw [hW9]
  clear hW9
  refine (MGet_own W9 w3.heap.size A1 N1 c1 F1 (HF1.out.below HG9.out) HG9.out.size h11 h12 (by omega)).mono ?_
  rintro e w10 ⟨gy, Ay, cy, ty, vy, ey, rfl, hY, hy40, hyd, hg10⟩
  obtain ⟨ny, hny⟩ : ∃ N, N = ty.length := ⟨_, rfl⟩
  rw [← hny] at hY ⊢
  have Hby := Lib.hid (show ∀ k, (Value.slice Ay ny cy).ownBlock = some k → W9.heap.size ≤ k ∧ k < w10.heap.size from hY.own.lt)
  have Hvy := Lib.hid (show ∀ (j : Nat) (x : Value) (k : Nat), vy[j]? = some x → x.ownBlock = some k → W9.heap.size ≤ k ∧ k < w10.heap.size from fun j x k h1 h2 => hY.lt h1 h2)
  have HY := Lib.hid hY
  have Hyd := Lib.hid hyd
  have Hny := Lib.hid hny
  have HX10 := Lib.hid (HX9.out.grow hg10)
  have hBx10 := Grow.blkOf hg10 hBx
  have hz10 := hg10.size
  have hz9 := HG9.out.size
  have HG10 := Lib.hid (HG9.out.trans hg10)
  have Hg78 := Lib.hid (Hg9.out.trans hg10)
  clear hY hyd hny hg10 hBx HX HX9
  go_wp2_with fail
  obtain ⟨W11, hW11⟩ : ∃ W11, w10.alloc (.cells #[.int .i64 gy, .slice Ay ny cy] 24) = W11 := ⟨_, rfl⟩
  have hG11 : Grow w10 W11 := by rw [← hW11]; exact Grow.alloc _ _
  have hBy11 : Blk W11 w10.heap.size 24 #[.int .i64 gy, .slice Ay ny cy] := by rw [← hW11]; exact Blk.new _ _ _
  have hBx11 := Grow.blkOf hG11 hBx10
  have HX11 := Lib.hid (HX10.out.grow hG11)
  have HY11 := Lib.hid (HY.out.grow hG11)
  have HG11 := Lib.hid (HG10.out.trans hG11)
  have HG7b := Lib.hid ((Hg78.out.trans hG11))
  have HGw11 := Lib.hid (HG3.out.trans HG11.out)
  have Hin11 := Lib.hid (show BytesAt W11 w1.heap.size (some ⟨w.heap.size, 0, none⟩) n b from by
   have h := HLt1.out.bytes hlt1
   rw [Hlen.out] at h
   exact h.below (HG13.out.trans HG11.out))
  have hz11 := hG11.size
  have hz1 := (HG13.out.trans HG11.out).size
  try rw [hW11]
  clear hW11 hBx10 HX10 HY hG11
  refine (gets25_any W11 w1.heap.size (some ⟨w.heap.size, 0, none⟩) n (n + 12) b Hin11.out hz1 (by omega) (by unfold maxLen; omega) (by omega)).mono ?_
  rintro e w12 ⟨rfl, hg12⟩
  have HG12 := Lib.hid (HG11.out.trans hg12)
  have Hk12 := Lib.hid hg12
  clear hg12
  go_wp2_with fail
  refine (gets25_any w12 w3.heap.size A1 N1 c1 F1 (HF1.out.below HG12.out) HG12.out.size h11 h12 (by omega)).mono ?_
  rintro e w13 ⟨rfl, hg13⟩
  have HG13' := Lib.hid (HG12.out.trans hg13)
  have Hk13 := Lib.hid (Hk12.out.trans hg13)
  clear hg13
  go_wp2_with fail
  refine (gets25_any w13 w5.heap.size A2 N2 c2 F2 (HF2.out.below ((HG57.out.trans (HG7b.out)).trans Hk13.out)) ((HG57.out.trans (HG7b.out)).trans Hk13.out).size h21 h22 (by omega)).mono ?_
  rintro e w14 ⟨rfl, hg14⟩
  have Hk14 := Lib.hid (Hk13.out.trans hg14)
  clear hg14
  go_wp2_with fail
  refine (gets25_any w14 w7.heap.size A3 N3 c3 F3 (HF3.out.below (HG7b.out.trans Hk14.out)) (HG7b.out.trans Hk14.out).size h31 h32 (by omega)).mono ?_
  rintro e w15 ⟨rfl, hg15⟩
  have Hk15 := Lib.hid (Hk14.out.trans hg15)
  clear hg15
  go_wp2_with fail
  refine (KeptBytes_yes w15 w.heap.size w.heap.size A n c b (HLt1.out.below ((HG13.out.trans HG11.out).trans Hk15.out) hlt1) (HR.out.below (HGw11.out.trans Hk15.out)) (by omega)).mono ?_
  rintro e w16 ⟨rfl, q16, hq16⟩
  have hg16 : Grow w15 w16 := by rw [← hq16]; exact Grow.drewN _ _
  have Hk16 := Lib.hid (Hk15.out.trans hg16)
  clear hq16 hg16
  have hBx16 := Grow.blkOf Hk16.out hBx11
  have hBy16 := Grow.blkOf Hk16.out hBy11
  have hx0 := hBx16.cell 0
  have hx1 := hBx16.cell 1
  have hy0 := hBy16.cell 0
  have hy1 := hBy16.cell 1
  have hzx := hBx16.lt
  have hzy := hBy16.lt
  go_wp2_with fail
  obtain ⟨W17, hW17⟩ : ∃ W17, ((w16.alloc (.cells #[.int .i64 gx, .slice Ax nx cx] 24)).alloc (.cells #[.int .i64 gy, .slice Ay ny cy] 24)).alloc (.cells #[.slice (some ⟨w16.heap.size, 0, none⟩) 1 1, .slice (some ⟨w16.heap.size + 1, 0, none⟩) 1 1] 46) = W17 := ⟨_, rfl⟩
  have hz17 : W17.heap.size = w16.heap.size + 3 := by rw [← hW17]; simp
  have hG17 : Grow w16 W17 := by rw [← hW17]; exact ((Grow.alloc _ _).trans (Grow.alloc _ _)).trans (Grow.alloc _ _)
  have hz7 : w7.heap.size ≤ W9.heap.size := Hg9.out.size
  have hz79 : W9.heap.size ≤ W11.heap.size := Nat.le_trans hz10 hz11
  have hz16 : W11.heap.size ≤ w16.heap.size := Hk16.out.size
  have hlx : W17.ownsRow w7.heap.size 24 2 (.slice (some ⟨w16.heap.size, 0, none⟩) 1 1) 1 [.int .i64 gx, .slice Ax nx cx] := by
   rw [← hW17]
   exact ((World.ownsRow_lit w16 _ 1 (by omega) (by decide) rfl).alloc _).alloc _
  have hly : W17.ownsRow w7.heap.size 24 2 (.slice (some ⟨w16.heap.size + 1, 0, none⟩) 1 1) 1 [.int .i64 gy, .slice Ay ny cy] := by
   rw [← hW17]
   have h := (World.ownsRow_lit (w16.alloc (.cells #[.int .i64 gx, .slice Ax nx cx] 24)) (e := 24) (size := 2) (base := w7.heap.size) #[.int .i64 gy, .slice Ay ny cy] 1 (by simp; omega) (by decide) rfl).alloc (.cells #[.slice (some ⟨w16.heap.size, 0, none⟩) 1 1, .slice (some ⟨w16.heap.size + 1, 0, none⟩) 1 1] 46)
   rw [World.size_alloc] at h
   exact h
  have hrd : ReadsAt W17 W17.heap.size 1 (some ⟨w16.heap.size + 1 + 1, 0, none⟩) 2 [.slice (some ⟨w16.heap.size, 0, none⟩) 1 1, .slice (some ⟨w16.heap.size + 1, 0, none⟩) 1 1] := by
   have h := ReadsAt.made ((w16.alloc (.cells #[.int .i64 gx, .slice Ax nx cx] 24)).alloc (.cells #[.int .i64 gy, .slice Ay ny cy] 24)) 46 [.slice (some ⟨w16.heap.size, 0, none⟩) 1 1, .slice (some ⟨w16.heap.size + 1, 0, none⟩) 1 1]
   rw [World.size_alloc, World.size_alloc] at h
   rw [hz17, ← hW17]
   exact h
  have hXo := HX11.out.grow (Hk16.out.trans hG17)
  have hYo : ShardsOwn W9.heap.size W17 (.slice Ay ny cy) ty vy := HY11.out.grow (Hk16.out.trans hG17)
  have hYo' : ShardsOwn w7.heap.size W17 (.slice Ay ny cy) ty vy := ⟨hYo.len, own_base hYo.own hz7, fun j x t hx ht => own_base (hYo.each j x t hx ht) hz7, hYo.dist⟩
  have hz89 : w8.heap.size ≤ W9.heap.size := HG89.out.size
  have hd1 : DistV [.slice (some ⟨w16.heap.size, 0, none⟩) 1 1, .slice (some ⟨w16.heap.size + 1, 0, none⟩) 1 1] := by
   intro i j v v' b hi hj hij hb hb'
   match i, j, hi, hj with
   | 0, 0, _, _ => exact hij rfl
   | 1, 1, _, _ => exact hij rfl
   | 0, 1, hi, hj => cases hi; cases hj; simp [Value.ownBlock] at hb hb'; omega
   | 1, 0, hi, hj => cases hi; cases hj; simp [Value.ownBlock] at hb hb'; omega
  have hd2 : DistV [.slice Ax nx cx, .slice Ay ny cy] := by
   intro i j v v' b hi hj hij hb hb'
   match i, j, hi, hj with
   | 0, 0, _, _ => exact hij rfl
   | 1, 1, _, _ => exact hij rfl
   | 0, 1, hi, hj => cases hi; cases hj; have := Hbx.out b hb; have := Hby.out b hb'; omega
   | 1, 0, hi, hj => cases hi; cases hj; have := Hbx.out b hb'; have := Hby.out b hb; omega
  have hd3 : DistV (vx ++ vy) := distV_both hXo.dist hYo.dist fun i j x y b hx hy hb hb' => by
   have := Hvx.out i x b hx hb
   have := Hvy.out j y b hy hb'
   omega
  have hl1 := hXo.len
  have hl2 := hYo.len
  have Hap := Lib.hid (ApartManifests_any W17 w7.heap.size W17.heap.size (some ⟨w16.heap.size + 1 + 1, 0, none⟩) 2 2 [⟨.slice (some ⟨w16.heap.size, 0, none⟩) 1 1, .slice Ax nx cx, gx, tx, vx⟩, ⟨.slice (some ⟨w16.heap.size + 1, 0, none⟩) 1 1, .slice Ay ny cy, gy, ty, vy⟩] hrd (Nat.le_refl _) (fun p hp => by
   simp only [List.mem_cons, List.not_mem_nil, or_false] at hp
   rcases hp with rfl | rfl
   ·exact ⟨hlx, hXo⟩
   ·exact ⟨hly, hYo'⟩) hd1 hd2 (by simpa using hd3) (by omega) (by omega) (by simp; omega) (fun p hp t ht => by
    simp only [List.mem_cons, List.not_mem_nil, or_false] at hp
    rcases hp with rfl | rfl
    ·exact Hxd.out t ht
    ·exact Hyd.out t ht))
  have Hlow : Hid (∀ k, (OwnS ([(⟨.slice (some ⟨w16.heap.size, 0, none⟩) 1 1, .slice Ax nx cx, gx, tx, vx⟩ : MQ), ⟨.slice (some ⟨w16.heap.size + 1, 0, none⟩) 1 1, .slice Ay ny cy, gy, ty, vy⟩].flatMap (·.vs)) k ∨ OwnS ([(⟨.slice (some ⟨w16.heap.size, 0, none⟩) 1 1, .slice Ax nx cx, gx, tx, vx⟩ : MQ), ⟨.slice (some ⟨w16.heap.size + 1, 0, none⟩) 1 1, .slice Ay ny cy, gy, ty, vy⟩].map (·.sv)) k ∨ OwnS ([(⟨.slice (some ⟨w16.heap.size, 0, none⟩) 1 1, .slice Ax nx cx, gx, tx, vx⟩ : MQ), ⟨.slice (some ⟨w16.heap.size + 1, 0, none⟩) 1 1, .slice Ay ny cy, gy, ty, vy⟩].map (·.lv)) k) → w7.heap.size ≤ k) := fun k hk => by
   rcases hk with ⟨j, v, hv, hvb⟩ | ⟨j, v, hv, hvb⟩ | ⟨j, v, hv, hvb⟩
   ·have hv : (vx ++ vy)[j]? = some v := by simpa using hv
    rw [List.getElem?_append] at hv
    split at hv
    ·exact (Hvx.out _ v k hv hvb).1
    ·exact Nat.le_trans hz7 (Hvy.out _ v k hv hvb).1
   ·match j, hv with
    | 0, hv => cases hv; exact (Hbx.out k hvb).1
    | 1, hv => cases hv; exact Nat.le_trans hz7 (Hby.out k hvb).1
   ·match j, hv with
    | 0, hv => cases hv; simp [Value.ownBlock] at hvb; omega
    | 1, hv => cases hv; simp [Value.ownBlock] at hvb; omega
  have HG17 := Lib.hid (Hk16.out.trans hG17)
  have hz717 : w7.heap.size ≤ W17.heap.size := by omega
  clear hlx hly hrd hXo hYo hYo' hd1 hd2 hd3 hl1 hl2 hG17 hx0 hx1 hy0 hy1 hBx16 hBy16 hBx11 hBy11
  try rw [hW17]
  clear hW17
  refine Hap.out.mono ?_
  rintro e w18 ⟨rfl, hk18⟩
  have hb18 : Below w7.heap.size W17 w18 := hk18.below Hlow.out hz717
  have H718 := Lib.hid (Below.trans (show Below w7.heap.size w7 W17 from HG7b.out.trans HG17.out) hb18)
  clear hk18 hb18 Hap Hlow
  have hz37 : w3.heap.size ≤ w7.heap.size := HG37.out.size
  go_wp2_with fail
  refine (gets25_any w18 w3.heap.size A1 N1 c1 F1 (HF1.out.below (Below.trans HG37.out (Below.mono H718.out hz37))) (Nat.le_trans hz37 H718.out.size) h11 h12 (by omega)).mono ?_
  rintro e w19 ⟨rfl, hg19⟩
  have hgw : Below w.heap.size w w18 := by
   have h1 : Grow w w7 := HG7.out
   exact Below.trans h1 (Below.mono H718.out h1.size)
  have Hw19 := Lib.hid (show Grow w w19 from Grow.trans hgw hg19)
  clear hgw hg19
  go_wp2_with fail
  refine (awake25_any w19 (hL.grow Hw19.out)).mono ?_
  rintro e w20 ⟨rfl, hg20⟩
  have Hw20 := Lib.hid (Hw19.out.trans hg20)
  clear hg20
  go_wp2
  go_ret
  exact ⟨rfl, Hw20.out⟩
end Go.Proofs.YtcimkoehcdfjdaaGreatDoor
