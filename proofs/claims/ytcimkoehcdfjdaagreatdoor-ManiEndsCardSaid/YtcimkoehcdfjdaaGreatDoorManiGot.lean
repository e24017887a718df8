/-
  The walks of mani's must, and of the closure that Get defers.
  The walks of mani's reader.shards, and of its closure.
  Shards in memory that the call owns.
  The walk of mani's Get.
-/
import Derived.RecoverIn
import Derived.RangeFuncLeaves
import Derived.Laws.Pointers
import Derived.WalkLawsBesides
import Derived.Test.YtcimkoehcdfjdaaGreatDoorManiPut
import Derived.Deep.MidRow
import Derived.Test.YtcimkoehcdfjdaaGreatDoorRNumber
import Derived.Test.YtcimkoehcdfjdaaGreatDoorFGetAll
import Derived.Test.YtcimkoehcdfjdaaGreatDoorRRising
import Derived.Test.YtcimkoehcdfjdaaGreatDoorBaseF
import Derived.Test.YtcimkoehcdfjdaaGreatDoorManiBase
namespace Go.Proofs.YtcimkoehcdfjdaaGreatDoor
open Go.RowKit WireM
set_option linter.unusedVariables false

def thrown : List PanicEntry := [{ v := .iface 29 (.int .i64 9), recovered := false }]
theorem mmust_yes (w : World) : Calls Tryz.prog 46 #[.bool true] w fun e w' => e = .returned (.tuple #[]) ∧ w = w' := by
 go_enter Tryz.func46, Tryz.ntmps46
 go_wp2
 go_end0
 exact ⟨rfl, rfl⟩
theorem mmust_no (w : World) : Calls Tryz.prog 46 #[.bool false] w fun e w' => e = .panicked thrown ∧ w = w' := by
 go_enter Tryz.func46, Tryz.ntmps46
 go_wp2
 exact ⟨rfl, rfl, rfl⟩

set_option maxRecDepth 100000 in
theorem mGet1_idle (n : Nat) (pe pm : Addr) (w : World) : CallsDIn Fence.wide n Tryz.prog 44 #[.pointer (some pe), .pointer (some pm)] .returning w fun e u' w' => e = .returned (.tuple #[]) ∧ u' = .returning ∧ w' = w := by
 refine callsDIn_of_wpSIn Tryz.func44 rfl trivial fun c₀ cs hu => ?_
 apply wpSIn_seq
 apply wpSIn_region
 simp [wpOpsSIn, go_sem, recoverD, hu, Tryz.ntmps44, Exit.thenS]
 apply wpSIn_seq
 apply wpSIn_region
 simp [wpOpsSIn, go_sem, Exit.thenS]
 refine wpSIn_cond (t := false) (by simp [Act.eval, Array.replicate]) ?_
 simp only [Bool.false_eq_true, if_false]
 refine wpSIn_of_wpIn rfl (wpIn_skip ?_)
 cases c₀
 simp_all [bodyPostS, results, Tryz.results44]
theorem assert_errno (W : World) (v : Value) : (Instr.typeAssert (.iface 29 v) 20 29 true).run Tryz.prog W = .ok (.tuple #[v, .bool true]) W := by kernel_rfl
set_option maxRecDepth 100000 in
set_option maxHeartbeats 2000000 in
theorem mGet1_caught (n : Nat) (pe pm : Nat) (x : Int) (cs0 : Array Value) (w : World) (he : Blk w pe 29 #[.int .i64 x]) (v1 v2 : Value) (hm : Blk w pm 24 #[v1, v2]) (hne : pe ≠ pm) :
  CallsDIn Fence.wide n Tryz.prog 44 #[.pointer (some ⟨pe, 0, none⟩), .pointer (some ⟨pm, 0, none⟩)] (.panicking thrown) w fun e u' w' =>
   e = .returned (.tuple #[]) ∧ u' = .panicking [{ v := .iface 29 (.int .i64 9), recovered := true }] ∧ Blk w' pe 29 #[.int .i64 9] ∧ Blk w' pm 24 #[.int .i64 0, .slice none 0 0] ∧ Keep (fun k => k = pe ∨ k = pm) w w' := by
 have hta := fun (W : World) (v : Value) => assert_errno W v
 have e0 := he.cell 0
 have ef := he.frozen 0
 have hm' : Blk (w.setCell ⟨pe, 0, none⟩ (.int .i64 9)) pm 24 #[v1, v2] := hm.far (p := ⟨pe, 0, none⟩) (fun h => hne h.symm) _
 have m0 := hm'.cell 0
 have mf0 := hm'.frozen 0
 have hm2 := hm'.set 0 (.int .i64 0)
 have m1 := hm2.cell 1
 have mf1 := hm2.frozen 1
 refine callsDIn_of_wpSIn Tryz.func44 rfl trivial fun c₀ cs hu => ?_
 rw [thrown] at hu
 simp only [Tryz.ntmps44, List.size_toArray, List.length_cons, List.length_nil, Nat.reduceAdd, Nat.reduceSub, Array.replicate_succ, Array.replicate_zero, List.push_toArray, List.append_toArray, List.nil_append, List.cons_append]
 apply wpSIn_seq
 apply wpSIn_region
 simp [wpOpsSIn, go_sem, recoverD, hu, Exit.thenS]
 refine wpSIn_of_wpIn rfl ?_
 gi_wp2
 have hE : Blk (((w.setCell ⟨pe, 0, none⟩ (.int .i64 9)).setCell ⟨pm, 0, none⟩ (.int .i64 0)).setCell ⟨pm, 1, none⟩ (.slice none 0 0)) pe 29 #[.int .i64 9] := by
  have h1 := (he.set 0 (.int .i64 9))
  exact (h1.far (p := ⟨pm, 0, none⟩) hne _).far (p := ⟨pm, 1, none⟩) hne _
 have hM := hm2.set 1 (.slice none 0 0)
 have hK : Keep (fun k => k = pe ∨ k = pm) w (((w.setCell ⟨pe, 0, none⟩ (.int .i64 9)).setCell ⟨pm, 0, none⟩ (.int .i64 0)).setCell ⟨pm, 1, none⟩ (.slice none 0 0)) :=
  (((Keep.setCell w ⟨pe, 0, none⟩ _).mono fun j hj => Or.inl (Or.inl hj)).trans' ((Keep.setCell _ ⟨pm, 0, none⟩ _).mono fun j hj => Or.inl (Or.inr hj))).trans' ((Keep.setCell _ ⟨pm, 1, none⟩ _).mono fun j hj => Or.inl (Or.inr hj))
 refine ⟨rfl, _, rfl, .tuple #[], by simp [results, Tryz.results44], rfl, rfl, hE, ?_, hK⟩
 simpa using hM
end Go.Proofs.YtcimkoehcdfjdaaGreatDoor

namespace Go.Proofs.YtcimkoehcdfjdaaGreatDoor
open Go.RowKit Go.Shelf WireM
set_option linter.unusedVariables false
attribute [local go_sem] Oper.semAt_some

theorem shards_any (g : Nat) (many : Int) (w : World) : Calls Tryz.prog 49 #[.agg #[.pointer (some ⟨g, 0, none⟩)], .int .i64 many] w fun e w' => e = .returned (.func (.func 97) #[] #[.pointer (some ⟨w.heap.size + 1, 0, none⟩), .pointer (some ⟨w.heap.size, 0, none⟩)]) ∧ (w.alloc (.cells #[.pointer (some ⟨g, 0, none⟩)] 104)).alloc (.cells #[.int .i64 many] 3) = w' := by
 have hmf : ∀ (fn : Fn) (first cap : Array Value) (w : World), (Instr.makeFunc fn first cap).run Tryz.prog w = .ok (.func fn first cap) w := fun _ _ _ _ => rfl
 go_enter Tryz.func49, Tryz.ntmps49
 go_wp2
 go_ret
 exact ⟨rfl, rfl⟩

/-! a chain of a reader's calls within a drawn region -/
theorem RdAt.grown {w w1 w2 : World} {g : Nat} {st : St} {len : Nat} (h : RdAt w g st len w1) (hg : Grow w1 w2) : RdAt w g st len w2 := by
 obtain ⟨A, n, c, l, bad, h1, h2, h3, h4⟩ := h
 exact ⟨A, n, c, l, bad, h1.grow hg, h2, h3, h4.trans' (Keep.grow hg)⟩
def seqW (W0 : World) (g len : Nat) (val : Nat → Value) (st : Nat → St) (vals : List Value) (w : World) : Prop := (∀ j v, vals[j]? = some v → v = val j) ∧ RdAt W0 g (st vals.length) len w
theorem seqW.grow {W0 : World} {g len : Nat} {val : Nat → Value} {st : Nat → St} : ∀ (vals : List Value) (w w' : World), Grow w w' → seqW W0 g len val st vals w → seqW W0 g len val st vals w' := fun _ _ _ hg h => ⟨h.1, h.2.grown hg⟩
theorem seqW.next {W0 : World} {g len k : Nat} {val : Nat → Value} {st : Nat → St} {vals : List Value} {w w' : World} {A : Option Addr} {n c : Nat} {l : List UInt8} {bad : Bool} {st' : St} {v : Value} (h : seqW W0 g len val st vals w) (hr : Rd w g A n c l bad) (hl : l.length ≤ len) (hk : Keep (Own1 g) W0 w) (hn : RdAt w g st' l.length w') (hlen : vals.length = k) (hv : v = val k) (hst : st' = st (k + 1)) :
  Keep (Own1 g) w w' ∧ seqW W0 g len val st (vals ++ [v]) w' := by
 obtain ⟨A1, n1, c1, l1, b1, h1, h2, h3, h4⟩ := hn
 refine ⟨h4, fun j u hj => ?_, A1, n1, c1, l1, b1, h1, ?_, Nat.le_trans h3 hl, hk.trans' h4⟩
 ·by_cases hjv : j < vals.length
  ·rw [List.getElem?_append_left hjv] at hj
   exact h.1 j u hj
  ·rw [List.getElem?_append_right (by omega)] at hj
   have hj0 : j - vals.length = 0 := by
    rcases Nat.lt_or_ge (j - vals.length) 1 with h | h
    ·omega
    ·rw [List.getElem?_eq_none (by simpa using h)] at hj
     cases hj
   rw [hj0] at hj
   obtain rfl : v = u := by simpa using hj
   rw [show j = k by omega]
   exact hv
 ·rw [h2, List.length_append, hlen]
  exact hst
theorem seqW.start {W0 : World} {g : Nat} {val : Nat → Value} {st : Nat → St} {A : Option Addr} {n c : Nat} {l : List UInt8} {bad : Bool} (h : Rd W0 g A n c l bad) (hs : stOf l bad = st 0) : seqW W0 g l.length val st [] W0 := ⟨fun j v hj => by simp at hj, A, n, c, l, bad, h, hs, Nat.le_refl _, Keep.refl _ _⟩
theorem seqW.v {W0 : World} {g len : Nat} {val : Nat → Value} {st : Nat → St} {vals : List Value} {w : World} {j : Nat} {v : Value} (h : seqW W0 g len val st vals w) (hv : vals[j]? = some v) : v = val j := h.1 j v hv
def FactOn.newP {S : Nat → Prop} (B0 : Nat) (hS : ∀ k, S k → k < B0) (t : TypeId) (cs : Array Value) : FactOn (Keep S) :=
 ⟨fun u w => ∃ m, u = .pointer (some ⟨m, 0, none⟩) ∧ B0 ≤ m ∧ Blk w m t cs, fun _ _ _ hk ⟨m, h1, h2, h3⟩ => ⟨m, h1, h2, hk.blk h3 (fun hs => by have := hS m hs; omega)⟩⟩
theorem lastQ.store {P : Program} {o : Oper} {Q : Exit → Act → World → Prop} {a : Act} {w : World} (ty : TypeId) (s1 s2 : Nat) (ho : o.op = .store ty (.tmp s1) (.tmp s2)) {u1 u2 : Value} (b : Nat) (cells : Array Value) (h1 : a.tmps[s1]? = some u1) (hu1 : u1 = .pointer (some ⟨b, 0, none⟩)) (h2 : a.tmps[s2]? = some u2) (hu2 : u2 = .agg cells)
  (ht : w.there b 0 cells.size) (hi : (P.info? ty).map (·.size) = some cells.size) (hone : cells.all (·.oneCell') = true) (h : Q .normal (a.put o.dst undef) (w.setCells b 0 cells.toList)) : lastQ P o Q .normal a w := by
 subst hu1 hu2
 exact Or.inl ⟨rfl, wp_store_mid ty (.tmp s1) (.tmp s2) ho b 0 cells (evalT h1) (evalT h2) ht hi hone h⟩
theorem lastQ.go {P : Program} {o : Oper} {Q : Exit → Act → World → Prop} {a : Act} {w : World} (h : o.wp P a w (Q .normal) Q) : lastQ P o Q .normal a w := Or.inl ⟨rfl, h⟩

theorem getShards_no {k : Nat} {l : List UInt8} (h : (getShard (some l)).2 = none) : getShards (k + 1) (some l) = ([], none) := by
 simp only [getShards, h]
theorem getShards_yes {k : Nat} {l l1 : List UInt8} (h : (getShard (some l)).2 = some l1) : getShards (k + 1) (some l) = ((getShard (some l)).1 :: (getShards k (some l1)).1, (getShards k (some l1)).2) := by
 simp only [getShards, h]

def shVal (N1 N2 : Nat × St) : Nat → Value
 | 0 => .int .i64 (N1.1 : Int)
 | _ => .int .i64 (N2.1 : Int)
def shSt (l : List UInt8) (N1 N2 : Nat × St) : Nat → St
 | 0 => some l
 | 1 => N1.2
 | _ => N2.2
def shardV (s : ShardM) (v : Value) : Value := .agg #[.int .i64 s.num, .int .i64 s.size, .int .u32 (s.sum.toNat : Int), v]
def ShardsTo (J : List ShardM → World → Prop) (g : Nat) (T : List ShardM × St) (len : Nat) (e : Ending) (W : World) : Prop := (∃ v, e = .returned v) ∧ ∃ ss A n c l bad, J ss W ∧ Rd W g A n c l bad ∧ stOf l bad = T.2 ∧ (bad = false → ss = T.1) ∧ l.length ≤ len

set_option maxRecDepth 100000 in
set_option maxHeartbeats 4000000 in
theorem shards1_any (m : Nat) (hm : 1 ≤ m) (lp Bm Br g many : Nat) (J : List ShardM → World → Prop)
  (hJ : ∀ (ss : List ShardM) (W W' : World), J ss W → (∃ cs, Blk W g 161 cs) → Keep (Own1 g) W W' → J ss W')
  (hY : ∀ (ss : List ShardM) (s : ShardM) (v : Value) (A : Option Addr) (n c : Nat) (l : List UInt8) (W0 W : World), ss.length < many → J ss W → Rd W g A n c l false → Boxed W Bm 3 (.int .i64 (many : Int)) → Boxed W Br 104 (.pointer (some ⟨g, 0, none⟩)) → J ss W0 → Keep (Own1 g) W0 W → (∃ cs, Blk W0 g 161 cs) → W.ownsRow W0.heap.size 3 1 v s.dead.length (s.dead.map i64v) →
   YieldAt Fence.wide (m - 1) Tryz.prog lp #[shardV s v] W fun e W' => e = .returned (.bool true) ∧ J (ss ++ [s]) W' ∧ Rd W' g A n c l false ∧ Boxed W' Bm 3 (.int .i64 (many : Int)) ∧ Boxed W' Br 104 (.pointer (some ⟨g, 0, none⟩)))
  (W : World) (A : Option Addr) (n c : Nat) (l : List UInt8) (bad : Bool) (hR : Rd W g A n c l bad) (hb : bad = true → many = 0) (hBm : Boxed W Bm 3 (.int .i64 (many : Int))) (hBr : Boxed W Br 104 (.pointer (some ⟨g, 0, none⟩))) (h0 : J [] W) (hmn : many ≤ 1000000) (hl : l.length ≤ 17592186044416) :
  CallsIn Fence.wide m Tryz.prog 97 #[.func (.yield lp) #[] #[], .pointer (some ⟨Bm, 0, none⟩), .pointer (some ⟨Br, 0, none⟩)] W (ShardsTo J g (getShards many (stOf l bad)) l.length) := by
 refine callsIn_of_wp Tryz.func97 rfl trivial ?_ rfl
 simp only [Tryz.ntmps97, List.size_toArray, List.length_cons, List.length_nil, Nat.reduceAdd, Nat.reduceSub, Array.replicate_succ, Array.replicate_zero, List.push_toArray, List.append_toArray, List.nil_append, List.cons_append]
 have HY := Lib.hid hY
 have HJ := Lib.hid hJ
 clear hY hJ
 have hcm0 := hBm.cell
 obtain ⟨T, hT⟩ : ∃ T, T = getShards many (stOf l bad) := ⟨_, rfl⟩
 rw [← hT]
 gi_wp2
 refine wpIn_wide.2 (wp_scope_straight ((wpIn_wide (n := m)).1 ?_))
 gi_wp2
 refine wpIn_label ?_
 gi_wp2
 gi_loopw [4, 6] (fun _ v6 wr => ∃ (k : Nat) (ss : List ShardM) (Ar : Option Addr) (nr cr : Nat) (lr : List UInt8) (br : Bool), k ≤ many ∧ v6 = .int .i64 (k : Int) ∧ Rd wr g Ar nr cr lr br ∧ lr.length ≤ l.length ∧ (br = true → many = 0) ∧ ss.length = k ∧ Hid (T = (ss ++ (getShards (many - k) (stOf lr br)).1, (getShards (many - k) (stOf lr br)).2)) ∧ Boxed wr Bm 3 (.int .i64 (many : Int)) ∧ Boxed wr Br 104 (.pointer (some ⟨g, 0, none⟩)) ∧ Hid (J ss wr)) (fun _ v6 _ => many - (intOf v6).toNat)
 case atStart => exact ⟨0, [], A, n, c, l, bad, by omega, rfl, hR, Nat.le_refl _, hb, rfl, by show _ = _; rw [hT]; simp, hBm, hBr, h0⟩
 case round =>
  obtain ⟨k, ss, Ar, nr, cr, lr, br, hk, rfl, hRr, hlr, hbr, hss, hTT, hBmr, hBrr, hj⟩ := hrel
  by_cases hlt : k < many
  ·obtain rfl : br = false := by
    cases br with
    | false => rfl
    | true => have := hbr rfl; omega
   have hcB := hBrr.cell
   obtain ⟨N1, hN1⟩ : ∃ N1, N1 = num 1099511627776 (some lr) := ⟨_, rfl⟩
   obtain ⟨N2, hN2⟩ : ∃ N2, N2 = num 67108864 N1.2 := ⟨_, rfl⟩
   have HN1 := Lib.hid hN1
   have HN2 := Lib.hid hN2
   clear hN1 hN2
   have HBr := Lib.hid (show Blk wr Br 104 #[.pointer (some ⟨g, 0, none⟩)] from hBrr)
   have hBrg : ¬ Own1 g Br := fun e => by
    have h1 := hRr.cell
    have h2 := HBr.out
    rw [show Br = g from e] at h2
    unfold Blk at h1 h2
    rw [h2] at h1
    cases h1
   have hS : ∀ q, Own1 g q → q < wr.heap.size := fun q hq => by rw [show q = g from hq]; exact hRr.cell.lt
   gi_wp2
   refine wpIn_wide.2 (wp_region_stages (by kernel_rfl) ?_)
   refine anyOrder_pop rfl (by kernel_rfl) ?_
   refine anyOrder_start [2, 5] (Keep (Own1 g)) (seqW wr g lr.length (shVal N1 N2) (shSt lr N1 N2)) (FactsOn [.is (.pointer (some ⟨Br, 0, none⟩)), .is (.pointer (some ⟨g, 0, none⟩)), .any, .is (.pointer (some ⟨Br, 0, none⟩)), .is (.pointer (some ⟨g, 0, none⟩)), .any, .is (.agg #[.int .i64 (N1.1 : Int), .int .i64 (N2.1 : Int), .int .u32 0, .slice none 0 0]), .newP wr.heap.size hS 52 #[.int .i64 0, .int .i64 0, .int .u32 0, .slice none 0 0]]) (fun i => 99) keep_trans keep_grow (seqW.grow) (factsOn_mono _) (by kernel_rfl) (by kernel_rfl) (seqW.start hRr rfl) ?_ ?_
   ·refine ⟨?_, ?_, ?_, ?_, ?_, ?_, ?_, ?_, trivial⟩
    ·refine sF rfl rfl ?_
     intro us vals w3 a' ha hle hW hd hv K hK
     have q2 : a'.tmps[2]? = some (.pointer (some ⟨Br, 0, none⟩)) := slot_old ha
     exact sV (v := .pointer (some ⟨Br, 0, none⟩)) hK rfl
    ·refine sF rfl rfl ?_
     intro us vals w3 a' ha hle hW hd hv K hK
     obtain ⟨d0, _⟩ := hd
     have q8 : a'.tmps[8]? = some (us 0) := slot_get ha 0
     rw [show us 0 = .pointer (some ⟨Br, 0, none⟩) from d0] at q8
     have hc := (hle.blk HBr.out hBrg).cell 0
     exact sV (v := .pointer (some ⟨g, 0, none⟩)) hK rfl
    ·refine stageOf_mem (t := 0) rfl ?_
     intro us vals w3 a' ha hle hW hd hv
     obtain ⟨d1, _⟩ := hd
     obtain rfl := List.eq_nil_of_length_eq_zero (Nat.le_zero.1 (show vals.length ≤ 0 from Nat.le_of_eq hv))
     refine ⟨wanted_none rfl, fun K hK => ?_⟩
     have q9 : a'.tmps[9]? = some (us 1) := slot_get ha 1
     rw [show us 1 = .pointer (some ⟨g, 0, none⟩) from d1] at q9
     obtain ⟨A4, n4, c4, l4, b4, hd4, hs4, hl4, hk4⟩ := hW.2
     refine step_call (f := 48) (args := #[.pointer (some ⟨g, 0, none⟩), .int .i64 1099511627776]) (by go_simp) ?_
     have hn := RNumber_any w3 g A4 n4 c4 l4 b4 1099511627776 hd4
     have hs5 : stOf l4 b4 = some lr := hs4
     rw [hs5, ← HN1.out] at hn
     refine hn.mono ?_
     rintro e w4 ⟨rfl, hR5⟩
     obtain ⟨hk5, hW5⟩ := seqW.next (k := 0) hW hd4 hl4 hk4 hR5 rfl rfl rfl
     exact ⟨_, rfl, hK _ _ hk5 hW5⟩
    ·refine sF rfl rfl ?_
     intro us vals w3 a' ha hle hW hd hv K hK
     have q2 : a'.tmps[2]? = some (.pointer (some ⟨Br, 0, none⟩)) := slot_old ha
     exact sV (v := .pointer (some ⟨Br, 0, none⟩)) hK rfl
    ·refine sF rfl rfl ?_
     intro us vals w3 a' ha hle hW hd hv K hK
     obtain ⟨d3, _⟩ := hd
     have q11 : a'.tmps[11]? = some (us 3) := slot_get ha 3
     rw [show us 3 = .pointer (some ⟨Br, 0, none⟩) from d3] at q11
     have hc := (hle.blk HBr.out hBrg).cell 0
     exact sV (v := .pointer (some ⟨g, 0, none⟩)) hK rfl
    ·refine stageOf_mem (t := 1) rfl ?_
     intro us vals w3 a' ha hle hW hd hv
     obtain ⟨d4, _, _⟩ := hd
     obtain ⟨x0, rfl⟩ := List.length_eq_one_iff.1 hv
     refine ⟨wanted_none rfl, fun K hK => ?_⟩
     have q12 : a'.tmps[12]? = some (us 4) := slot_get ha 4
     rw [show us 4 = .pointer (some ⟨g, 0, none⟩) from d4] at q12
     obtain ⟨A4, n4, c4, l4, b4, hd4, hs4, hl4, hk4⟩ := hW.2
     refine step_call (f := 48) (args := #[.pointer (some ⟨g, 0, none⟩), .int .i64 67108864]) (by go_simp) ?_
     have hn := RNumber_any w3 g A4 n4 c4 l4 b4 67108864 hd4
     have hs5 : stOf l4 b4 = N1.2 := hs4
     rw [hs5, ← HN2.out] at hn
     refine hn.mono ?_
     rintro e w4 ⟨rfl, hR5⟩
     obtain ⟨hk5, hW5⟩ := seqW.next (k := 1) hW hd4 hl4 hk4 hR5 rfl rfl rfl
     exact ⟨_, rfl, hK _ _ hk5 hW5⟩
    ·refine sF rfl rfl ?_
     intro us vals w3 a' ha hle hW hd hv K hK
     obtain ⟨d2, d5, _⟩ := hd
     have q10 : a'.tmps[10]? = some (us 2) := slot_get ha 2
     have q13 : a'.tmps[13]? = some (us 5) := slot_get ha 5
     have e2 : us 2 = .int .i64 (N1.1 : Int) := hW.v d2
     have e5 : us 5 = .int .i64 (N2.1 : Int) := hW.v d5
     rw [e2] at q10
     rw [e5] at q13
     exact sV (v := .agg #[.int .i64 (N1.1 : Int), .int .i64 (N2.1 : Int), .int .u32 0, .slice none 0 0]) hK rfl
    ·refine sF rfl rfl ?_
     intro us vals w3 a' ha hle hW hd hv K hK
     exact step_value (v := .pointer (some ⟨w3.heap.size, 0, none⟩)) (w2 := w3.alloc (.cells #[.int .i64 0, .int .i64 0, .int .u32 0, .slice none 0 0] 52)) (by go_simp) (hK _ _ (Grow.alloc _ _) ⟨w3.heap.size, rfl, hle.size, Blk.new _ _ _⟩)
   ·intro us vals w3 hle hvl hV hch hf
    obtain ⟨x1, x2, rfl⟩ : ∃ x1 x2, vals = [x1, x2] := by
     match vals, hvl with
     | [a, b], _ => exact ⟨a, b, rfl⟩
    have h6 : us 6 = .agg #[.int .i64 (N1.1 : Int), .int .i64 (N2.1 : Int), .int .u32 0, .slice none 0 0] := hf 6 (by decide) rfl
    obtain ⟨mb, h7, hmz, hmb⟩ : ∃ m, us 7 = .pointer (some ⟨m, 0, none⟩) ∧ wr.heap.size ≤ m ∧ Blk w3 m 52 #[.int .i64 0, .int .i64 0, .int .u32 0, .slice none 0 0] := hf 7 (by decide) rfl
    refine lastQ.store 52 4 14 rfl mb #[.int .i64 (N1.1 : Int), .int .i64 (N2.1 : Int), .int .u32 0, .slice none 0 0] (u1 := us 7) (u2 := us 6) (by kernel_rfl) h7 (by kernel_rfl) h6 (fun j hj => ?_) (by kernel_rfl) (by simp [Value.oneCell']) ?_
    ·rw [hmb.cell]
     have hj : j < 4 := hj
     refine ⟨?_, hmb.frozen _⟩
     match j, hj with
     | 0, _ | 1, _ | 2, _ | 3, _ => rfl
    ·obtain ⟨A4, n4, c4, l4, b4, hd4, hs4, hl4, hk4⟩ := hV.2
     obtain ⟨W2, hW2⟩ : ∃ W2, w3.setCells mb 0 [.int .i64 (N1.1 : Int), .int .i64 (N2.1 : Int), .int .u32 0, .slice none 0 0] = W2 := ⟨_, rfl⟩
     have hk23 : Keep (fun j => j = mb) w3 W2 := by rw [← hW2]; exact setCells_keep mb _ w3 0
     have hb2 : Blk W2 mb 52 #[.int .i64 (N1.1 : Int), .int .i64 (N2.1 : Int), .int .u32 0, .slice none 0 0] := by
      rw [← hW2]
      exact setCells_blk [.int .i64 (N1.1 : Int), .int .i64 (N2.1 : Int), .int .u32 0, .slice none 0 0] (w := w3) (b := mb) (t := 52) (L := [.int .i64 0, .int .i64 0, .int .u32 0, .slice none 0 0]) hmb 0
     have hgl := hRr.cell.lt
     have hd2 : Rd W2 g A4 n4 c4 l4 b4 := hd4.kept hk23 (by omega) (fun ad e => by have := hd4.apart ad e; omega)
     have hK2 : Keep (Own1 g) wr W2 := hle.trans hk23 (fun j hj => Or.inr (by rw [show j = mb from hj]; exact hmz))
     have hs2 : stOf l4 b4 = N2.2 := hs4
     rw [show (#[Value.int .i64 (N1.1 : Int), .int .i64 (N2.1 : Int), .int .u32 0, .slice none 0 0] : Array Value).toList = [.int .i64 (N1.1 : Int), .int .i64 (N2.1 : Int), .int .u32 0, .slice none 0 0] from rfl, hW2]
     have hg4 : ¬ Own1 g mb := fun e => by rw [show mb = g from e] at hmz; omega
     generalize ha2 : Act.put (fills _ _ _ _) _ _ = a2
     obtain rfl : a2 = { tmps := #[.func (.yield lp) #[] #[], .pointer (some ⟨Bm, 0, none⟩), .pointer (some ⟨Br, 0, none⟩), undef, us 7, .int .i64 (many : Int), .int .i64 (k : Int), .bool true, us 0, us 1, us 2, us 3, us 4, us 5, us 6, u15, u16, u17, u18, u19, u20, u21, u22, u23, u24, u25, u26, u27, u28, u29, u30, u31, u32, u33], defers := [] } := by rw [← ha2]; kernel_rfl
     rw [h7]
     clear ha2 hW2 hf hch hV hvl hmb hk23 hd4 hs4 hk4 hle
     have hcB2 := (hK2.blk HBr.out hBrg).cell 0
     obtain ⟨F3, hF3⟩ : ∃ F3, F3 = fixed N2.2 := ⟨_, rfl⟩
     have HF3 := Lib.hid hF3
     obtain ⟨y, hy⟩ : ∃ y : BitVec 32, y.toNat = F3.1 := ⟨BitVec.ofNat 32 F3.1, by rw [BitVec.toNat_ofNat]; exact Nat.mod_eq_of_lt (by rw [hF3]; exact fixed_lt _)⟩
     have Hy2 := Lib.hid (show y = BitVec.ofNat 32 F3.1 by rw [← hy]; simp)
     gi_wp2_with fail
     refine ⟨trivial, ?_⟩
     gi_at_call 93
     have hn := RFixed_any W2 g A4 n4 c4 l4 b4 hd2
     rw [hs2, ← hF3, ← hy] at hn
     refine (callsIn_wide.2 hn).mono ?_
     rintro e w5 ⟨rfl, A5, n5, c5, l5, b5, hd5, hs5, hl5, hk5⟩
     clear hn hd2 hF3 hy
     have hb5 := hk5.blk hb2 hg4
     have hc52 := hb5.cell 2
     have hf52 := hb5.frozen 2
     obtain ⟨w6, hw6⟩ : ∃ w6, w5.setCell ⟨mb, 2, none⟩ (.int .u32 (y.toNat : Int)) = w6 := ⟨_, rfl⟩
     have hk56 : Keep (fun j => j = mb) w5 w6 := by rw [← hw6]; exact Keep.setCell w5 ⟨mb, 2, none⟩ _
     have hb6 : Blk w6 mb 52 #[.int .i64 (N1.1 : Int), .int .i64 (N2.1 : Int), .int .u32 (y.toNat : Int), .slice none 0 0] := by rw [← hw6]; exact hb5.set 2 _
     have hd6 : Rd w6 g A5 n5 c5 l5 b5 := hd5.kept hk56 (by omega) (fun ad e => by have := hd5.apart ad e; omega)
     have hK6 : Keep (Own1 g) wr w6 := (hK2.trans' hk5).trans hk56 (fun j hj => Or.inr (by rw [show j = mb from hj]; exact hmz))
     have hcB6 := (hK6.blk HBr.out hBrg).cell 0
     obtain ⟨R4, hR4⟩ : ∃ R4, R4 = rising 4000 3999 F3.2 := ⟨_, rfl⟩
     have HR4 := Lib.hid hR4
     clear hb2 hK2 hd5 hk5 hb5 hcB2 hk56
     gi_wp2_with fail
     refine ⟨trivial, ?_⟩
     gi_at_call 98
     have hn := RRising_any w6 g A5 n5 c5 l5 b5 4000 3999 hd6 (by omega)
     rw [hs5, ← hR4] at hn
     refine (callsIn_wide.2 hn).mono ?_
     rintro e w7 ⟨r, B7, rfl, hB7, ho7, A7, n7, c7, l7, b7, hd7, hs7, hl7, hk7⟩
     clear hn hd6 hR4
     obtain ⟨Av, cv, rfl, -, -, -⟩ := own_reads ho7
     have hb7 := hk7.blk hb6 hg4
     have hc73 := hb7.cell 3
     have hf73 := hb7.frozen 3
     obtain ⟨w8, hw8⟩ : ∃ w8, w7.setCell ⟨mb, 3, none⟩ (.slice Av R4.1.length cv) = w8 := ⟨_, rfl⟩
     have hk78 : Keep (fun j => j = mb) w7 w8 := by rw [← hw8]; exact Keep.setCell w7 ⟨mb, 3, none⟩ _
     have hb8 : Blk w8 mb 52 #[.int .i64 (N1.1 : Int), .int .i64 (N2.1 : Int), .int .u32 (y.toNat : Int), .slice Av R4.1.length cv] := by rw [← hw8]; exact hb7.set 3 _
     have hd8 : Rd w8 g A7 n7 c7 l7 b7 := hd7.kept hk78 (by omega) (fun ad e => by have := hd7.apart ad e; omega)
     have hK8 : Keep (Own1 g) wr w8 := (hK6.trans' hk7).trans hk78 (fun j hj => Or.inr (by rw [show j = mb from hj]; exact hmz))
     have hcB8 := (hK8.blk HBr.out hBrg).cell 0
     have hlb6 := hb6.lt
     have hz8 := hK8.size
     have HK8 := Lib.hid hK8
     have Hs := Lib.hid (show getShard (some lr) = (⟨(N1.1 : Int), (N2.1 : Int), y, R4.1.map fun n : Nat => (n : Int)⟩, stOf l7 b7) by
      simp only [getShard, ← HN1.out, ← HN2.out, ← HF3.out, ← HR4.out, Hy2.out, hs7])
     have HO8 := Lib.hid (show w8.ownsRow wr.heap.size 3 1 (.slice Av R4.1.length cv) (R4.1.map fun n : Nat => (n : Int)).length ((R4.1.map fun n : Nat => (n : Int)).map i64v) by
      have h1 := hk78.own ho7 (fun q hq e => by have h2 := (ho7.lt q hq).1; rw [show q = mb from e] at h2; omega)
      rw [List.length_map, List.map_map]
      exact own_base h1 (Nat.le_trans hK6.size hB7))
     have Hj8 := Lib.hid (HJ.out ss wr w8 hj.out ⟨_, hRr.cell⟩ hK8)
     have hBm8 : Boxed w8 Bm 3 (.int .i64 (many : Int)) := hK8.blk hBmr (fun e => by
      have h1 := hRr.cell
      have h2 : Blk wr Bm 3 #[.int .i64 (many : Int)] := hBmr
      rw [show Bm = g from e] at h2
      unfold Blk at h1 h2
      rw [h2] at h1
      cases h1)
     have hBr8 : Boxed w8 Br 104 (.pointer (some ⟨g, 0, none⟩)) := hK8.blk HBr.out hBrg
     have hok := ROK_any w8 g A7 n7 c7 l7 b7 hd8
     have hcm0 := hb8.cell 0
     have hcm1 := hb8.cell 1
     have hcm2 := hb8.cell 2
     have hcm3 := hb8.cell 3
     have hlf : l7.length ≤ l.length := by omega
     clear hb6 hK6 hd7 hk7 hb7 hcB6 hk78 ho7 hK8
     cases b7 with
     | true =>
      have Hok := Lib.hid hok
      have Hfin := Lib.hid (show T.2 = none by
       rw [hTT.out, show many - k = (many - (k + 1)) + 1 by omega, stOf_false, getShards_no (by rw [Hs.out]; rfl)])
      clear hok hTT
      gi_wp2_with (refine ⟨trivial, ?_⟩; gi_at_call 50; refine (callsIn_wide.2 Hok.out).mono ?_; rintro e w' ⟨rfl, rfl⟩)
      refine ⟨(fun _ h => by cases h), ?_⟩
      gi_wp2
      rw [Exit.noGoto_normal]
      exact Go.Great.bodyPost_end0 rfl rfl ⟨⟨_, rfl⟩, ss, A7, n7, c7, l7, true, Hj8.out, hd8, by rw [Hfin.out]; rfl, (fun h => by cases h), hlf⟩
     | false =>
      obtain ⟨fn, tmps, assign, body, hyy, hRR⟩ := HY.out ss ⟨(N1.1 : Int), (N2.1 : Int), y, R4.1.map fun n : Nat => (n : Int)⟩ (.slice Av R4.1.length cv) A7 n7 c7 l7 wr w8 (by omega) Hj8.out hd8 hBm8 hBr8 hj.out HK8.out ⟨_, hRr.cell⟩ HO8.out
      unfold shardV at hyy
      have Hlt := Lib.hid hlt
      have Hok := Lib.hid hok
      have Hp2 := Lib.hid (show T = ((ss ++ [⟨(N1.1 : Int), (N2.1 : Int), y, R4.1.map fun n : Nat => (n : Int)⟩]) ++ (getShards (many - (k + 1)) (stOf l7 false)).1, (getShards (many - (k + 1)) (stOf l7 false)).2) by
       have h1 : (getShard (some lr)).2 = some l7 := by rw [Hs.out]; rfl
       rw [hTT.out, show many - k = (many - (k + 1)) + 1 by omega, stOf_false, getShards_yes h1, Hs.out]
       simp [stOf_false])
      clear hok hTT
      gi_wp2_with (refine ⟨trivial, ?_⟩; gi_at_call 50; refine (callsIn_wide.2 Hok.out).mono ?_; rintro e w' ⟨rfl, rfl⟩)
      refine hRR.mono ?_
      rintro e w9 ⟨rfl, hj9, hd9, hm9, hr9⟩
      have Hj9 := Lib.hid hj9
      clear hj9 hRR
      gi_wp2
      go_roundw
      case rel => exact ⟨k + 1, ss ++ [⟨(N1.1 : Int), (N2.1 : Int), y, R4.1.map fun n : Nat => (n : Int)⟩], A7, n7, c7, l7, false, Hlt.out, by go_num, hd9, hlf, (fun h => by cases h), by simp [hss], Hp2, hm9, hr9, Hj9⟩
      case measure => have h1 := Hlt.out; simp [intOf]; omega
  ·obtain rfl : k = many := by omega
   have Hfin := Lib.hid (show T = (ss, stOf lr br) by rw [hTT.out, Nat.sub_self]; simp [getShards])
   clear hTT
   gi_wp2
   rw [Exit.noGoto_normal]
   exact Go.Great.bodyPost_end0 rfl rfl ⟨⟨_, rfl⟩, ss, Ar, nr, cr, lr, br, hj.out, hRr, by rw [Hfin.out], (fun _ => by rw [Hfin.out]), hlr⟩
end Go.Proofs.YtcimkoehcdfjdaaGreatDoor

namespace Go.Proofs.YtcimkoehcdfjdaaGreatDoor
open Go.RowKit WireM
set_option linter.unusedVariables false

def shardCs (ts : List ShardM) (vs : List Value) : List Value := (ts.zip vs).flatMap fun p => [.int .i64 p.1.num, .int .i64 p.1.size, .int .u32 (p.1.sum.toNat : Int), p.2]
theorem shardCs_snoc {ts : List ShardM} {vs : List Value} (h : vs.length = ts.length) (t : ShardM) (x : Value) : shardCs (ts ++ [t]) (vs ++ [x]) = shardCs ts vs ++ [.int .i64 t.num, .int .i64 t.size, .int .u32 (t.sum.toNat : Int), x] := by
 rw [shardCs, List.zip_append h.symm, List.flatMap_append]
 rfl
structure ShardsOwn (B : Nat) (w : World) (v : Value) (ts : List ShardM) (vs : List Value) : Prop where
 len : vs.length = ts.length
 own : w.ownsRow B 52 4 v ts.length (shardCs ts vs)
 each : ∀ (j : Nat) (x : Value) (t : ShardM), vs[j]? = some x → ts[j]? = some t → w.ownsRow B 3 1 x t.dead.length (t.dead.map i64v)
 dist : DistV vs
section
variable {B : Nat} {w w1 w2 : World} {v v' x : Value} {ts : List ShardM} {vs : List Value} {t : ShardM} {S : Nat → Prop}
theorem ShardsOwn.nil (B : Nat) (w : World) : ShardsOwn B w (.slice none 0 0) [] [] := ⟨rfl, World.ownsRow_nil _ _ _ _, fun j x t h => by simp at h, fun i j v v' b h => by simp at h⟩
theorem ShardsOwn.lt (h : ShardsOwn B w v ts vs) {j k : Nat} (hx : vs[j]? = some x) (hk : x.ownBlock = some k) : B ≤ k ∧ k < w.heap.size := by
 have hj := (List.getElem?_eq_some_iff.1 hx).1
 rw [h.len] at hj
 exact (h.each j x _ hx (List.getElem?_eq_getElem hj)).lt k hk
theorem ShardsOwn.kept (h : ShardsOwn B w v ts vs) (hk : Keep S w w1) (hS : ∀ k, S k → ∀ cs t, w.heap[k]? = some (.cells cs t (0, 0)) → t ≠ 52 ∧ t ≠ 3) : ShardsOwn B w1 v ts vs :=
 ⟨h.len, hk.own h.own fun k hk2 hs => by
  obtain ⟨cur, hc⟩ := own_obj h.own hk2
  exact (hS k hs _ _ hc).1 rfl, fun j x t hx ht => hk.own (h.each j x t hx ht) fun k hk2 hs => by
  obtain ⟨cur, hc⟩ := own_obj (h.each j x t hx ht) hk2
  exact (hS k hs _ _ hc).2 rfl, h.dist⟩
theorem ShardsOwn.grow (h : ShardsOwn B w v ts vs) (hg : Grow w w1) : ShardsOwn B w1 v ts vs := h.kept (S := fun _ => False) (Keep.grow hg) fun _ h => h.elim
theorem ShardsOwn.snoc (h : ShardsOwn B w v ts vs) {Bx : Nat} (hx : w.ownsRow Bx 3 1 x t.dead.length (t.dead.map i64v)) (hB : B ≤ Bx) (hnew : ∀ (j : Nat) (y : Value) (k : Nat), vs[j]? = some y → y.ownBlock = some k → k < Bx)
  (hown : w2.ownsRow B 52 4 v' (ts.length + 1) (shardCs ts vs ++ [.int .i64 t.num, .int .i64 t.size, .int .u32 (t.sum.toNat : Int), x])) (hg : w.grownBy w2 v.ownBlock) : ShardsOwn B w2 v' (ts ++ [t]) (vs ++ [x]) := by
 have hk := Keep.grown hg
 have hv : ∀ k, v.ownBlock = some k → ∀ cs t, w.heap[k]? = some (.cells cs t (0, 0)) → t = 52 := fun k hk cs t ht => by
  obtain ⟨cur, hc⟩ := own_obj h.own hk
  rw [hc] at ht
  cases ht
  rfl
 have keep : ∀ (y : Value) (N BB : Nat) (ys : List Value), w.ownsRow BB 3 1 y N ys → w2.ownsRow BB 3 1 y N ys := fun y N BB ys hy => hk.own hy fun k hk2 hs => by
  obtain ⟨cur, hc⟩ := own_obj hy hk2
  exact absurd (hv k hs _ _ hc) (by decide)
 refine ⟨by simp [h.len], by rw [shardCs_snoc h.len, List.length_append]; exact hown, fun j y u hy hu => ?_, fun i j y y' b hi hj hne hb hb' => ?_⟩
 ·by_cases hj : j < ts.length
  ·rw [List.getElem?_append_left (by rw [h.len]; exact hj)] at hy
   rw [List.getElem?_append_left hj] at hu
   exact keep y _ _ _ (h.each j y u hy hu)
  ·have hl := (List.getElem?_eq_some_iff.1 hu).1
   simp at hl
   obtain rfl : j = ts.length := by omega
   rw [List.getElem?_append_right (Nat.le_refl _)] at hu
   rw [List.getElem?_append_right (by rw [h.len]; exact Nat.le_refl _), h.len] at hy
   simp at hu hy
   subst hu hy
   exact own_base (keep _ _ _ _ hx) hB
 ·have at_ : ∀ (i : Nat) (y : Value), (vs ++ [x])[i]? = some y → (i < vs.length ∧ vs[i]? = some y) ∨ (i = vs.length ∧ y = x) := fun i y hi => by
   by_cases hl : i < vs.length
   ·rw [List.getElem?_append_left hl] at hi
    exact Or.inl ⟨hl, hi⟩
   ·have hl2 := (List.getElem?_eq_some_iff.1 hi).1
    simp at hl2
    obtain rfl : i = vs.length := by omega
    rw [List.getElem?_append_right (Nat.le_refl _)] at hi
    exact Or.inr ⟨rfl, by simpa using hi.symm⟩
  rcases at_ i y hi with ⟨h1, h2⟩ | ⟨h1, h2⟩
  ·rcases at_ j y' hj with ⟨h3, h4⟩ | ⟨h3, h4⟩
   ·exact h.dist i j y y' b h2 h4 hne hb hb'
   ·subst h4
    have h5 := hnew i y b h2 hb
    have h6 := (hx.lt b hb').1
    omega
  ·rcases at_ j y' hj with ⟨h3, h4⟩ | ⟨h3, h4⟩
   ·subst h2
    have h5 := hnew j y' b h4 hb'
    have h6 := (hx.lt b hb).1
    omega
   ·omega
theorem ShardsOwn.reads (h : ShardsOwn B w v ts vs) (hb : ∀ t ∈ ts, t.dead.length ≤ 17592186044416 ∧ Wide64 t.num ∧ Wide64 t.size ∧ ∀ x ∈ t.dead, Wide64 x) : ∃ A c, v = .slice A ts.length c ∧ ts.length ≤ c ∧ c ≤ maxLen ∧ ShardsAt w w.heap.size A ts.length ts := by
 obtain ⟨A, c, rfl, h1, h2, h3⟩ := own_reads h.own
 refine ⟨A, c, rfl, h1, h2, rfl, fun hn => ?_⟩
 obtain ⟨b, off, e, hbl, hcl⟩ := h3.2 hn
 refine ⟨b, off, e, hbl, fun j t hj => ?_⟩
 have hjl := (List.getElem?_eq_some_iff.1 hj).1
 obtain ⟨x, hx⟩ : ∃ x, vs[j]? = some x := ⟨_, List.getElem?_eq_getElem (by rw [h.len]; exact hjl)⟩
 obtain ⟨A1, c1, e1, h4, h5, h6⟩ := own_reads (h.each j x t hx hj)
 have hcs : ∀ i u, [Value.int .i64 t.num, .int .i64 t.size, .int .u32 (t.sum.toNat : Int), x][i]? = some u → (shardCs ts vs)[j * 4 + i]? = some u := fun i u hu => by
  have hz : (ts.zip vs)[j]? = some (t, x) := by rw [List.getElem?_zip_eq_some]; exact ⟨hj, hx⟩
  have : ∀ (l : List (ShardM × Value)) (j : Nat) (p : ShardM × Value), l[j]? = some p → ∀ i u, [Value.int .i64 p.1.num, .int .i64 p.1.size, .int .u32 (p.1.sum.toNat : Int), p.2][i]? = some u → (l.flatMap fun p => [Value.int .i64 p.1.num, .int .i64 p.1.size, .int .u32 (p.1.sum.toNat : Int), p.2])[j * 4 + i]? = some u := by
   intro l
   induction l with
   | nil => intro j p hp; simp at hp
   | cons q l ih =>
    intro j p hp i u hu
    cases j with
    | zero =>
     obtain rfl : q = p := by simpa using hp
     match i, hu with
     | 0, hu => simpa using hu
     | 1, hu => simpa using hu
     | 2, hu => simpa using hu
     | 3, hu => simpa using hu
    | succ j =>
     have := ih j p (by simpa using hp) i u hu
     rw [List.flatMap_cons, show (j + 1) * 4 + i = (j * 4 + i) + 4 by omega]
     simpa using this
  exact this _ j (t, x) hz i u hu
 refine ⟨[.int .i64 t.num, .int .i64 t.size, .int .u32 (t.sum.toNat : Int), x], rfl, ⟨A1, t.dead.length, c1, by rw [e1], h4, h5, (hb t (List.mem_of_getElem? hj)).1, h6, (hb t (List.mem_of_getElem? hj)).2⟩, fun i u hu => ?_⟩
 ·have := hcl (j * 4 + i) u (hcs i u hu)
  rw [Nat.add_assoc]
  exact this
end
structure MGetJ (w : World) (D lp : Nat) (rec : LoopState → Option Code → Loop) (gen : Int) (ts : List ShardM) (W : World) : Prop where
 loop : W.heap[lp]? = some (.loop (rec .ready none))
 defers : W.heap[D]? = some (.deferred (some []))
 out : ∃ v vs, Blk W w.heap.size 24 #[.int .i64 gen, v] ∧ ShardsOwn w.heap.size W v ts vs
 err : Blk W (w.heap.size + 1) 29 #[.int .i64 0]
 below : Below w.heap.size w W
theorem MGetJ.kept {w W W1 : World} {D lp : Nat} {rec : LoopState → Option Code → Loop} {gen : Int} {ts : List ShardM} {S : Nat → Prop} (h : MGetJ w D lp rec gen ts W) (hk : Keep S W W1)
  (hS : ∀ k, S k → w.heap.size ≤ k ∧ ∃ cs t, W.heap[k]? = some (.cells cs t (0, 0)) ∧ t ≠ 52 ∧ t ≠ 3 ∧ t ≠ 24 ∧ t ≠ 29) : MGetJ w D lp rec gen ts W1 := by
 obtain ⟨v, vs, h1, h2⟩ := h.out
 have no : ∀ (k : Nat) (o : Obj), W.heap[k]? = some o → (∀ cs t, o = .cells cs t (0, 0) → t = 52 ∨ t = 3 ∨ t = 24 ∨ t = 29) → ¬ S k := fun k o hk2 ho hs => by
  obtain ⟨_, cs, t, q, q1, q2, q3, q4⟩ := hS k hs
  rw [hk2] at q
  injection q with q
  rcases ho cs t q with e | e | e | e
  ·exact q1 e
  ·exact q2 e
  ·exact q3 e
  ·exact q4 e
 refine ⟨hk.obj h.loop (no _ _ h.loop fun _ _ e => by cases e), hk.obj h.defers (no _ _ h.defers fun _ _ e => by cases e), ⟨v, vs, hk.blk h1 (no _ _ h1 fun _ _ e => by injection e with _ e; exact Or.inr (Or.inr (Or.inl e.symm))), h2.kept hk fun k hs cs t ht => ?_⟩, hk.blk h.err (no _ _ h.err fun _ _ e => by injection e with _ e; exact Or.inr (Or.inr (Or.inr e.symm))), Below.trans h.below (hk.below (fun k hs => (hS k hs).1) h.below.size)⟩
 obtain ⟨_, cs', t', q, q1, q2, _⟩ := hS k hs
 rw [ht] at q
 injection q with q
 injection q with _ q
 subst q
 exact ⟨q1, q2⟩
end Go.Proofs.YtcimkoehcdfjdaaGreatDoor

namespace Go.Proofs.YtcimkoehcdfjdaaGreatDoor
open Go.RowKit Go.Shelf WireM
set_option linter.unusedVariables false
attribute [local go_sem] Oper.semAt_some

def MGetTo (w : World) (b : List UInt8) (e : Ending) (w' : World) : Prop := Grow w w' ∧
 ((∃ m v vs, getF b = some m ∧ e = .returned (.tuple #[.agg #[.int .i64 m.gen, v], .int .i64 0]) ∧ ShardsOwn w.heap.size w' v m.shards vs) ∨ (getF b = none ∧ e = .returned (.tuple #[.agg #[.int .i64 0, .slice none 0 0], .int .i64 9])))

theorem leavesM_cons {P : Program} {F : Fence} {n : Nat} {fn : Func} {tmps : Array Value} {R : Ending → World → Prop} {fv : Fn} {cap dargs : Array Value} {ds : List Deferred} {u : FrameMode}
  {w : World} {f : FuncId} {args : Array Value} (hu : u ≠ .run) (hn : F.depth.isSome = true → 1 ≤ n) (hi : (invoke (.fn fv cap) dargs).run P w = .ok (.enter f args) w)
  (hl : ∀ g, (Target.fn fv cap).leads P w dargs = some g → F.fn g)
  (h : CallsDIn F (n - 1) P f args u w fun
   | .returned _, u', w' => LeavesInM F n P fn tmps R ds (settle u') w'
   | .panicked chain, u', w' => LeavesInM F n P fn tmps R ds (raised u' chain) w'
   | .outgrown, _, w' => R .outgrown w') :
  LeavesInM F n P fn tmps R ({ target := .fn fv cap, args := dargs } :: ds) u w :=
 ⟨hu, Or.inr ⟨hn, fv, cap, f, args, rfl, hi, hl, h⟩⟩

theorem num_le (most : Nat) : ∀ (st : St), (num (most : Int) st).1 ≤ most
 | none => Nat.zero_le _
 | some l => by
  obtain ⟨⟨n, st⟩, h⟩ : ∃ N, num (most : Int) (some l) = N := ⟨_, rfl⟩
  rw [h]
  cases st with
  | none => rw [show n = 0 from num_fail h]; exact Nat.zero_le _
  | some r => have := (num_one h).2.2; show n ≤ most; omega
def mgW (W0 : World) (g len : Nat) (x0 : Value) (st0 st1 : St) : List Value → World → Prop
 | [], w => RdAt W0 g st0 len w
 | [a], w => a = x0 ∧ RdAt W0 g st1 len w
 | a :: f :: _, w => ∃ b2, f = .func (.func 97) #[] #[.pointer (some ⟨b2 + 1, 0, none⟩), .pointer (some ⟨b2, 0, none⟩)] ∧ W0.heap.size ≤ b2 ∧ Blk w b2 104 #[.pointer (some ⟨g, 0, none⟩)] ∧ Blk w (b2 + 1) 3 #[a] ∧ a = x0 ∧ RdAt W0 g st1 len w
theorem mgW.grow {W0 : World} {g len : Nat} {x0 : Value} {st0 st1 : St} : ∀ (vals : List Value) (w w' : World), Grow w w' → mgW W0 g len x0 st0 st1 vals w → mgW W0 g len x0 st0 st1 vals w'
 | [], _, _, hg, h => RdAt.grown h hg
 | [_], _, _, hg, h => ⟨h.1, h.2.grown hg⟩
 | _ :: _ :: _, _, _, hg, ⟨b2, h1, h2, h3, h4, h5, h6⟩ => ⟨b2, h1, h2, Grow.blkOf hg h3, Grow.blkOf hg h4, h5, h6.grown hg⟩
def mgetD (w : World) : Deferred := { target := .fn (.func 44) #[.pointer (some ⟨w.heap.size + 1, 0, none⟩), .pointer (some ⟨w.heap.size, 0, none⟩)], args := #[] }
theorem mget_panic (w W : World) (b : List UInt8) (tmps : Array Value) (v1 v2 : Value) (x : Int) (hM : Blk W w.heap.size 24 #[v1, v2]) (hE : Blk W (w.heap.size + 1) 29 #[.int .i64 x]) (hG : Below w.heap.size w W) (hb : getF b = none) (h2 : tmps[2]? = some (.pointer (some ⟨w.heap.size, 0, none⟩))) (h3 : tmps[3]? = some (.pointer (some ⟨w.heap.size + 1, 0, none⟩))) :
  LeavesInM Fence.wide 4 Tryz.prog Tryz.f18 tmps (MGetTo w b) [mgetD w] (.panicking thrown) W := by
 refine leavesM_cons (f := 44) (args := #[.pointer (some ⟨w.heap.size + 1, 0, none⟩), .pointer (some ⟨w.heap.size, 0, none⟩)]) (by simp) (by simp) (by simp [go_sem]) (fun _ _ => trivial) ?_
 refine (mGet1_caught 3 (w.heap.size + 1) w.heap.size x #[] W hE v1 v2 hM (by omega)).mono ?_
 rintro e u' w' ⟨rfl, rfl, hE', hM', hk⟩
 have hc0 := hM'.cell 0
 have hc1 := hM'.cell 1
 have he0 := hE'.cell 0
 have hG' : Below w.heap.size w w' := Below.trans hG (hk.below (fun k h => by rcases h with h | h <;> omega) hG.size)
 have hd2 : tmps.getD 2 undef = .pointer (some ⟨w.heap.size, 0, none⟩) := by rw [Array.getD_eq_getD_getElem?, h2]; rfl
 have hd3 : tmps.getD 3 undef = .pointer (some ⟨w.heap.size + 1, 0, none⟩) := by rw [Array.getD_eq_getD_getElem?, h3]; rfl
 have hl1 : (loadVar 24 ⟨w.heap.size, 0, none⟩).run Tryz.prog w' = .ok (.agg #[.int .i64 0, .slice none 0 0]) w' := by go_simp
 have hl2 : (loadVar 29 ⟨w.heap.size + 1, 0, none⟩).run Tryz.prog w' = .ok (.int .i64 9) w' := by go_simp
 simp only [settle, LeavesInM]
 exact ⟨_, results_cells2 rfl tmps w' w.heap.size (w.heap.size + 1) _ _ hd2 hd3 hl1 hl2, hG', Or.inr ⟨hb, rfl⟩⟩
theorem getShard_small {l : List UInt8} {s : ShardM} {r : List UInt8} (h : getShard (some l) = (s, some r)) : s.dead.length ≤ 17592186044416 ∧ Wide64 s.num ∧ Wide64 s.size ∧ ∀ x ∈ s.dead, Wide64 x := by
 simp only [getShard, Prod.mk.injEq] at h
 obtain ⟨h1, h2⟩ := h
 cases ha : num 1099511627776 (some l) with
 | mk a la =>
  rw [ha] at h1 h2
  cases hb : num 67108864 la with
  | mk b lb =>
   simp only [hb] at h1 h2
   cases hc : fixed lb with
   | mk c lc =>
    simp only [hc] at h1 h2
    cases hd : rising 4000 3999 lc with
    | mk d ld =>
     simp only [hd] at h1 h2
     subst h2
     cases lc with
     | none => simp [rising, num] at hd
     | some lc =>
      cases lb with
      | none => simp [fixed] at hc
      | some lb =>
       cases la with
       | none => simp [num] at hb
       | some la =>
        obtain ⟨_, _, p1⟩ := num_one ha
        obtain ⟨_, _, p2⟩ := num_one hb
        obtain ⟨_, _, p5, p6⟩ := rising_one hd
        subst h1
        unfold Wide64
        refine ⟨by simp only [List.length_map]; omega, ⟨by simp only []; omega, by simp only []; omega⟩, ⟨by simp only []; omega, by simp only []; omega⟩, fun x hx => ?_⟩
        obtain ⟨k, hk, rfl⟩ := List.mem_map.1 hx
        have := p6 k hk
        omega
theorem getShards_small : ∀ (k : Nat) (st : St), ∀ s ∈ (getShards k st).1, s.dead.length ≤ 17592186044416 ∧ Wide64 s.num ∧ Wide64 s.size ∧ ∀ x ∈ s.dead, Wide64 x
 | 0, st, s, hs => by simp [getShards] at hs
 | k + 1, none, s, hs => by
  rw [getShards] at hs
  have h := getShard_none
  cases ha : getShard none with
  | mk a la =>
   rw [ha] at h hs
   simp only at h
   subst h
   simp at hs
 | k + 1, some l, s, hs => by
  rw [getShards] at hs
  cases ha : getShard (some l) with
  | mk a la =>
   rw [ha] at hs
   cases la with
   | none => simp at hs
   | some la =>
    rcases List.mem_cons.1 hs with rfl | hs
    ·exact getShard_small ha
    ·exact getShards_small k (some la) s hs
theorem getF_one {b : List UInt8} {t : PartM} (h : getB b = some [t]) (ht : t.tag = 1) : getF b = getM t.b := by
 rw [getF, h]
 obtain ⟨tag, p⟩ := t
 simp only at ht
 subst ht
 rfl
theorem getShards_le : ∀ (k : Nat) (st : St), (getShards k st).1.length ≤ k
 | 0, st => by simp [getShards]
 | k + 1, st => by
  rw [getShards]
  cases ha : getShard st with
  | mk a la =>
   cases la with
   | none => simp
   | some la =>
    have := getShards_le k (some la)
    simp only [List.length_cons]
    omega
theorem leaves_mark_tail {F : Fence} {n : Nat} {P : Program} {fn : Func} {tmps : Array Value} {R : Ending → World → Prop} {u : FrameMode} (hu : u ≠ .run) {m : Nat} {ds : List Deferred} {w : World}
  (hm : w.heap[m]? = some (.deferred (some []))) (h : ∀ w', OnlyMarks [m] w w' → LeavesInM F n P fn tmps R ds u w') : LeavesInM F n P fn tmps R (markOf m :: ds) u w :=
 ⟨hu, .inl ⟨m, _, rfl, run_takeDeferred hm, h _ ⟨rfl, rfl, rfl, by simp, fun k hk => World.putObj_heap_other (fun e => hk (by simp [e]))⟩⟩⟩
set_option maxRecDepth 100000 in
set_option maxHeartbeats 4000000 in
theorem MGet_any (w : World) (B : Nat) (A : Option Addr) (n c : Nat) (b : List UInt8) (hR : BytesAt w B A n b) (hB : B ≤ w.heap.size) (hnc : n ≤ c) (hc : c ≤ maxLen) (hn : n ≤ 67108864) :
  Calls Tryz.prog 18 #[.slice A n c] w (MGetTo w b) := by
 have hmf : ∀ (fn : Fn) (first cap : Array Value) (w : World), (Instr.makeFunc fn first cap).run Tryz.prog w = .ok (.func fn first cap) w := fun _ _ _ _ => rfl
 refine (callsIn_wide (n := 4)).1 ?_
 refine callsIn_of_wp_marks Tryz.func18 rfl trivial ?_ rfl
 simp only [Tryz.ntmps18, List.size_toArray, List.length_cons, List.length_nil, Nat.reduceSub, Nat.reduceAdd, Array.replicate_succ, Array.replicate_zero, List.push_toArray, List.append_toArray, List.nil_append, List.cons_append]
 gi_wp2_with fail
 obtain ⟨W0, hW0⟩ : ∃ W0, (w.alloc (.cells #[.int .i64 0, .slice none 0 0] 24)).alloc (.cells #[.int .i64 0] 29) = W0 := ⟨_, rfl⟩
 have hG0 : Grow w W0 := by rw [← hW0]; exact (Grow.alloc _ _).trans (Grow.alloc _ _)
 have hbM : Blk W0 w.heap.size 24 #[.int .i64 0, .slice none 0 0] := by rw [← hW0]; exact (Blk.new _ _ _).alloc _
 have hbE : Blk W0 (w.heap.size + 1) 29 #[.int .i64 0] := by
  rw [← hW0]
  have := Blk.new (w.alloc (.cells #[.int .i64 0, .slice none 0 0] 24)) 29 #[.int .i64 0]
  simpa using this
 rw [hW0]
 clear hW0
 have hR0 : BytesAt W0 B A n b := ReadsAt.keep hR fun p hp => hG0.cell (Nat.lt_of_lt_of_le hp hB)
 have hBz : B ≤ W0.heap.size := Nat.le_trans hB hG0.size
 refine ⟨trivial, ?_⟩
 gi_at_call 45
 refine (callsIn_wide.2 (Get_any W0 B A n c b hR0 hBz hnc hc hn)).mono ?_
 rintro e W1 hgt
 rcases hgt with ⟨ts, v, vs, hgb, rfl, hP, hG1⟩ | ⟨hgb, rfl, hG1⟩
 ·have hM1 := Grow.blkOf hG1 hbM
  have hE1 := Grow.blkOf hG1 hbE
  have hGw := hG0.trans hG1
  have hbl : (bodyB ts).length ≤ n := by
   have h1 := get_one hgb
   have h2 := hR.len
   rw [h1, fileB_len] at h2
   omega
  obtain ⟨A1, c1, rfl, h11, h12, h13⟩ := hP.reads (fun t ht => by have := part_le ht; omega)
  by_cases hlen : ts.length = 1
  ·obtain ⟨t, rfl⟩ := List.length_eq_one_iff.1 hlen
   obtain ⟨bb, off, A2, n2, c2, rfl, hb2, hp0, hp1, hnc2, hcm2, hn2, hR2⟩ := h13.at_ (k := 0) rfl
   rw [Nat.zero_mul, Nat.add_zero] at hp0 hp1
   have d1 : (((1 : Nat) : Int) == 1) = true := rfl
   have hn2' : n2 ≤ 67108864 := by have h1 := hR2.len; have h2 := part_le (ts := [t]) (t := t) (by simp); omega
   by_cases htag : t.tag = 1
   ·have d2 : ((t.tag.toNat : Int) == 1) = true := by rw [htag]; rfl
    gi_wp2_with (refine ⟨trivial, ?_⟩; gi_at_call 46; refine (callsIn_wide.2 (mmust_yes _)).mono ?_; rintro e w' ⟨rfl, rfl⟩)
    refine ⟨trivial, ?_⟩
    gi_at_call 47
    have hzB := hP.own
    refine (callsIn_wide.2 (Read_any W1 W1.heap.size A2 n2 c2 t.b hR2 (Nat.le_refl _) (by omega))).mono ?_
    rintro e W2 ⟨g, A3, c3, rfl, hgz, hd2, hG2⟩
    obtain ⟨W3, hW3⟩ : ∃ W3, W2.alloc (.cells #[.pointer (some ⟨g, 0, none⟩)] 104) = W3 := ⟨_, rfl⟩
    have hG3 : Grow W2 W3 := by rw [← hW3]; exact Grow.alloc _ _
    have hr3 : Blk W3 W2.heap.size 104 #[.pointer (some ⟨g, 0, none⟩)] := by rw [← hW3]; exact Blk.new _ _ _
    have hd3 := hd2.grow hG3
    have hM3 := Grow.blkOf (hG2.trans hG3) hM1
    have hE3 := Grow.blkOf (hG2.trans hG3) hE1
    have hGw3 := hGw.trans (hG2.trans hG3)
    have hcr3 := hr3.cell 0
    obtain ⟨N1, hN1⟩ : ∃ N1, N1 = num 1099511627776 (some t.b) := ⟨_, rfl⟩
    have hn3 := RNumber_any W3 g A3 n2 c3 t.b false 1099511627776 hd3
    rw [stOf_false, ← hN1] at hn3
    have Hn3 := Lib.hid hn3
    have HN1 := Lib.hid hN1
    have hm1z := hM1.lt
    have he1z := hE1.lt
    have hrl3 := hr3.lt
    clear hn3 hN1 hzB
    gi_wp2_with fail
    refine ⟨trivial, ?_⟩
    gi_at_call 48
    refine (callsIn_wide.2 Hn3.out).mono ?_
    rintro e W4 ⟨rfl, A4, n4, c4, l4, b4, hd4, hs4, hl4, hk4⟩
    have hgn : ∀ k, k < W1.heap.size → ¬ Own1 g k := fun k hk e => by rw [show k = g from e] at hk; omega
    have hz12 := hG2.size
    have hM4 := hk4.blk hM3 (hgn _ hm1z)
    have hE4 := hk4.blk hE3 (hgn _ he1z)
    have hr4 := hk4.blk hr3 (fun e => by have h1 := hd3.cell; rw [show W2.heap.size = g from e] at hr3; unfold Blk at h1 hr3; rw [hr3] at h1; cases h1)
    have hcM4 := hM4.cell 0
    have hfM4 := hM4.frozen 0
    obtain ⟨W5, hW5⟩ : ∃ W5, W4.setCell ⟨w.heap.size, 0, none⟩ (.int .i64 (N1.1 : Int)) = W5 := ⟨_, rfl⟩
    have hk45 : Keep (fun j => j = w.heap.size) W4 W5 := by rw [← hW5]; exact Keep.setCell W4 ⟨w.heap.size, 0, none⟩ _
    have hM5 : Blk W5 w.heap.size 24 #[.int .i64 (N1.1 : Int), .slice none 0 0] := by rw [← hW5]; exact hM4.set 0 _
    have hE5 := hk45.blk hE4 (by omega)
    have hr5 := hk45.blk hr4 (by omega)
    have hd5 : Rd W5 g A4 n4 c4 l4 b4 := hd4.kept hk45 (by omega) (fun ad e hs => by
     obtain ⟨cs, h⟩ := hd4.ty ad e
     have h2 := hM4
     rw [show ad.block = w.heap.size from hs] at h
     unfold Blk at h2
     rw [h2] at h
     cases h)
    have hcr5 := hr5.cell 0
    have hrg : ¬ Own1 g W2.heap.size := fun e => by have h1 := hd5.cell; have h2 := hr5; rw [show W2.heap.size = g from e] at h2; unfold Blk at h1 h2; rw [h2] at h1; cases h1
    obtain ⟨N2, hN2⟩ : ∃ N2, N2 = num 40 N1.2 := ⟨_, rfl⟩
    have HN2 := Lib.hid hN2
    have hs5 : stOf l4 b4 = N1.2 := hs4
    clear hN2
    gi_wp2_with fail
    have hk45' := hk45
    clear hM4 hE4 hr4 hcM4 hfM4 hk45 hd4 hM3 hE3 hr3 hcr3 hd3 hW5 hW3
    refine wpIn_wide.2 (wp_region_stages (by kernel_rfl) ?_)
    refine anyOrder_start [3, 4] (Keep (Own1 g)) (mgW W5 g l4.length (.int .i64 (N2.1 : Int)) N1.2 N2.2) (FactsOn [.is (.agg #[.pointer (some ⟨g, 0, none⟩)]), .is (.pointer (some ⟨W2.heap.size, 0, none⟩)), .is (.pointer (some ⟨g, 0, none⟩)), .any, .any]) (fun i => 99) keep_trans keep_grow (mgW.grow) (factsOn_mono _) (by kernel_rfl) (by kernel_rfl) ⟨A4, n4, c4, l4, b4, hd5, hs4, Nat.le_refl _, Keep.refl _ _⟩ ?_ ?_
    ·refine ⟨?_, ?_, ?_, ?_, ?_, trivial⟩
     ·refine sF rfl rfl ?_
      intro us vals w3 a' ha hle hW hd hv K hK
      have q6 : a'.tmps[6]? = some (.pointer (some ⟨W2.heap.size, 0, none⟩)) := slot_old ha
      have hc := (hle.blk hr5 hrg).cell 0
      exact sV (v := .agg #[.pointer (some ⟨g, 0, none⟩)]) hK rfl
     ·refine sF rfl rfl ?_
      intro us vals w3 a' ha hle hW hd hv K hK
      have q6 : a'.tmps[6]? = some (.pointer (some ⟨W2.heap.size, 0, none⟩)) := slot_old ha
      exact sV (v := .pointer (some ⟨W2.heap.size, 0, none⟩)) hK rfl
     ·refine sF rfl rfl ?_
      intro us vals w3 a' ha hle hW hd hv K hK
      obtain ⟨d1, _⟩ := hd
      have q39 : a'.tmps[39]? = some (us 1) := slot_get ha 1
      rw [show us 1 = .pointer (some ⟨W2.heap.size, 0, none⟩) from d1] at q39
      have hc := (hle.blk hr5 hrg).cell 0
      exact sV (v := .pointer (some ⟨g, 0, none⟩)) hK rfl
     ·refine stageOf_mem (t := 0) rfl ?_
      intro us vals w3 a' ha hle hW hd hv
      obtain ⟨d2, _⟩ := hd
      obtain rfl := List.eq_nil_of_length_eq_zero (Nat.le_zero.1 (show vals.length ≤ 0 from Nat.le_of_eq hv))
      refine ⟨wanted_none rfl, fun K hK => ?_⟩
      have q40 : a'.tmps[40]? = some (us 2) := slot_get ha 2
      rw [show us 2 = .pointer (some ⟨g, 0, none⟩) from d2] at q40
      obtain ⟨A7, n7, c7, l7, b7, hd7, hs7, hl7, hk7⟩ := (show RdAt W5 g N1.2 l4.length w3 from hW)
      refine step_call (f := 48) (args := #[.pointer (some ⟨g, 0, none⟩), .int .i64 40]) (by go_simp) ?_
      have hn := RNumber_any w3 g A7 n7 c7 l7 b7 40 hd7
      rw [hs7, ← HN2.out] at hn
      refine hn.mono ?_
      rintro e w4 ⟨rfl, A8, n8, c8, l8, b8, hd8, hs8, hl8, hk8⟩
      exact ⟨_, rfl, hK _ _ hk8 ⟨rfl, A8, n8, c8, l8, b8, hd8, hs8, Nat.le_trans hl8 hl7, hk7.trans' hk8⟩⟩
     ·refine stageOf_mem (t := 1) rfl ?_
      intro us vals w3 a' ha hle hW hd hv
      obtain ⟨d0, d3, _, _⟩ := hd
      obtain ⟨x0, rfl⟩ := List.length_eq_one_iff.1 hv
      obtain rfl : us 3 = x0 := by have h0 : some x0 = some (us 3) := d3; injection h0 with h0; exact h0.symm
      refine ⟨wanted_none rfl, fun K hK => ?_⟩
      have q38 : a'.tmps[38]? = some (us 0) := slot_get ha 0
      rw [show us 0 = .agg #[.pointer (some ⟨g, 0, none⟩)] from d0] at q38
      have q41 : a'.tmps[41]? = some (us 3) := slot_get ha 3
      obtain ⟨e3, hrd⟩ := (show us 3 = .int .i64 (N2.1 : Int) ∧ RdAt W5 g N2.2 l4.length w3 from hW)
      rw [e3] at q41
      refine step_call (f := 49) (args := #[.agg #[.pointer (some ⟨g, 0, none⟩)], .int .i64 (N2.1 : Int)]) (by go_simp) ?_
      refine (shards_any g (N2.1 : Int) w3).mono ?_
      rintro e w4 ⟨rfl, rfl⟩
      have hga : Grow w3 ((w3.alloc (.cells #[.pointer (some ⟨g, 0, none⟩)] 104)).alloc (.cells #[.int .i64 (N2.1 : Int)] 3)) := (Grow.alloc _ _).trans (Grow.alloc _ _)
      have hb9 := Blk.new (w3.alloc (.cells #[.pointer (some ⟨g, 0, none⟩)] 104)) 3 #[.int .i64 (N2.1 : Int)]
      rw [World.size_alloc] at hb9
      exact ⟨_, rfl, hK _ _ (Keep.grow hga) ⟨w3.heap.size, rfl, hle.size, (Blk.new _ _ _).alloc _, by rw [e3]; exact hb9, e3, hrd.grown hga⟩⟩
    ·intro us vals w3 hle hvl hV hch hf
     obtain ⟨x1, x2, rfl⟩ : ∃ x1 x2, vals = [x1, x2] := by
      match vals, hvl with
      | [a, b], _ => exact ⟨a, b, rfl⟩
     obtain ⟨b2, h4, hbz, hbR, hbI, h3, hrd⟩ := hV
     have h5 : x1 = us 3 := by have h := hch 0 (by simp); injection h
     have h6 : x2 = us 4 := by have h := hch 1 (by simp); injection h
     subst h5 h6
     generalize ha2 : fills _ _ _ _ = a2
     obtain rfl : a2 = { tmps := #[.slice A n c, undef, .pointer (some ⟨w.heap.size, 0, none⟩), .pointer (some ⟨w.heap.size + 1, 0, none⟩), .slice (some ⟨bb, off, none⟩) 1 c1, .int .i64 0, .pointer (some ⟨W2.heap.size, 0, none⟩), undef, .func (.func 44) #[] #[.pointer (some ⟨w.heap.size + 1, 0, none⟩), .pointer (some ⟨w.heap.size, 0, none⟩)], .tuple #[.slice (some ⟨bb, off, none⟩) 1 c1, .int .i64 0], .slice A n c, .tuple #[.slice (some ⟨bb, off, none⟩) 1 c1, .int .i64 0], .slice (some ⟨bb, off, none⟩) 1 c1, .int .i64 0, .int .i64 0, .bool true, .bool true, .slice (some ⟨bb, off, none⟩) 1 c1, .int .i64 1, .bool true, .bool true, .tuple #[], .slice (some ⟨bb, off, none⟩) 1 c1, .pointer (some ⟨bb, off, none⟩), .pointer (some ⟨bb, off, none⟩), .int .u8 1, .bool true, .tuple #[], .slice (some ⟨bb, off, none⟩) 1 c1, .pointer (some ⟨bb, off, none⟩), .pointer (some ⟨bb, off + 1, none⟩), .slice A2 n2 c2, .pointer (some ⟨g, 0, none⟩), .agg #[.pointer (some ⟨g, 0, none⟩)], .pointer (some ⟨W2.heap.size, 0, none⟩), .pointer (some ⟨g, 0, none⟩), .int .i64 (N1.1 : Int), .pointer (some ⟨w.heap.size, 0, none⟩), us 0, us 1, us 2, us 3, us 4, undef, undef, undef, undef, undef, undef, undef, undef, undef, undef, undef, undef, undef, undef, undef, undef, undef, undef, undef, undef, undef, undef], defers := [mgetD w] } := by rw [← ha2]; kernel_rfl
     rw [h3] at hbI
     rw [h3, h4]
     clear ha2 hf hch hvl h3 h4
     gi_wp2
     have hz35 := hle.size
     have hM6 := hle.blk hM5 (hgn _ hm1z)
     have hE6 := hle.blk hE5 (hgn _ he1z)
     have hgw1 : w.heap.size ≤ W1.heap.size := hGw.size
     have hzA : W1.heap.size ≤ w3.heap.size := by have h1 := hz12; have h2 := hG3.size; have h3 := hk4.size; have h4 := hk45'.size; omega
     have hB6 : Below w.heap.size w w3 := Below.trans (Below.trans (Below.trans hGw3 (hk4.below (fun k hk => by rw [show k = g from hk]; omega) hGw3.size)) (hk45'.below (fun k hk => by omega) (Nat.le_trans hGw3.size hk4.size))) (hle.below (fun k hk => by rw [show k = g from hk]; omega) (Nat.le_trans hGw3.size (Nat.le_trans hk4.size hk45'.size)))
     obtain ⟨A6, n6, c6, l6, b6, hd6, hs6, hl6, hk6⟩ := hrd
     refine rangeJ rfl (by omega) (gf := 97) (lb := #[.pointer (some ⟨b2 + 1, 0, none⟩), .pointer (some ⟨b2, 0, none⟩)]) rfl trivial (enters_of Tryz.func97 (by kernel_rfl) rfl) ?_
     intro fn rec W6 _ hrec hg6 hz6 hD6 hlp6
     have hkn : Keep (fun _ => False) w3 W6 := (Keep.grown hg6).mono fun j h => by cases h
     have hG6 := hkn.toGrow
     have hr6 := hle.blk hr5 hrg
     have hJ0 : MGetJ w w3.heap.size (w3.heap.size + 1) rec (N1.1 : Int) [] W6 ∧ Blk W6 W2.heap.size 104 #[.pointer (some ⟨g, 0, none⟩)] := ⟨⟨hlp6, hD6, ⟨_, [], Grow.blkOf hG6 hM6, ShardsOwn.nil _ _⟩, Grow.blkOf hG6 hE6, Below.trans hB6 (Below.mono hG6 hB6.size)⟩, Grow.blkOf hG6 hr6⟩
     have hN2le : N2.1 ≤ 40 := by rw [HN2.out]; exact num_le 40 _
     have hb6m : b6 = true → N2.1 = 0 := fun h => by
      subst h
      obtain ⟨n9, st9⟩ := N2
      obtain rfl : none = st9 := hs6
      exact num_fail HN2.out.symm
     have hl6' : l6.length ≤ 17592186044416 := by have h1 := hR2.len; omega
     refine (shards1_any 3 (by omega) (w3.heap.size + 1) (b2 + 1) b2 g N2.1 (fun ss W => MGetJ w w3.heap.size (w3.heap.size + 1) rec (N1.1 : Int) ss W ∧ Blk W W2.heap.size 104 #[.pointer (some ⟨g, 0, none⟩)]) ?keep ?yes W6 A6 n6 c6 l6 b6 (hd6.grow hG6) hb6m (Grow.blkOf hG6 hbI) (Grow.blkOf hG6 hbR) hJ0 (by omega) hl6').mono ?after
     case keep =>
      intro ss W W' hJ hcs hk
      obtain ⟨cs, hcs⟩ := hcs
      exact ⟨hJ.1.kept hk (fun k hk2 => by rw [show k = g from hk2]; exact ⟨by omega, cs, _, hcs, by decide, by decide, by decide, by decide⟩), hk.blk hJ.2 hrg⟩
     case yes =>
      intro ss s v A7 n7 c7 l7 W0' W' hlen7 ⟨hJw, hrw⟩ hd7 hbm7 hbr7 ⟨hJ, hrJ⟩ hk7 hcs7 hown7
      obtain ⟨A8, c8, rfl, -, -, -⟩ := own_reads hown7
      unfold shardV
      refine yieldJ trivial hrec hJw.loop rfl ?_
      gi_wp2
      obtain ⟨W7, hW7⟩ : ∃ W7, W'.alloc (.cells #[.int .i64 s.num, .int .i64 s.size, .int .u32 (s.sum.toNat : Int), .slice A8 s.dead.length c8] 52) = W7 := ⟨_, rfl⟩
      have hG7 : Grow W' W7 := by rw [← hW7]; exact Grow.alloc _ _
      have hs7 : Blk W7 W'.heap.size 52 #[.int .i64 s.num, .int .i64 s.size, .int .u32 (s.sum.toNat : Int), .slice A8 s.dead.length c8] := by rw [← hW7]; exact Blk.new _ _ _
      have hz7 : W7.heap.size = W'.heap.size + 1 := by rw [← hW7]; simp
      rw [hW7]
      clear hW7
      obtain ⟨v0, vs0, hO0, hP0⟩ := hJ.out
      have hk07 : Keep (Own1 g) W0' W7 := hk7.trans' (Keep.grow hG7)
      have hl7 := (Keep.grow (S := fun _ => False) hG7).obj hJw.loop (fun h => h)
      have hgR : ∀ k, Own1 g k → ∀ cs u, W0'.heap[k]? = some (.cells cs u (0, 0)) → u = 161 := fun k hk cs u hu => by
       obtain ⟨cs2, hcs⟩ := hcs7
       rw [show k = g from hk, show W0'.heap[g]? = _ from hcs] at hu
       cases hu
       rfl
      have hlpz : w3.heap.size + 1 < W'.heap.size := (Array.getElem?_eq_some_iff.1 hJw.loop).1
      have hO7 := hk07.blk hO0 (hgn _ hm1z)
      have hE7 := hk07.blk hJ.err (hgn _ he1z)
      have hP7 := hP0.kept hk07 fun k hk cs u hu => by rw [hgR k hk cs u hu]; decide
      have hown8 := own_below hown7 hG7
      have hvty : ∀ k, v0.ownBlock = some k → ∃ cur, W7.heap[k]? = some (.cells cur 52 (0, 0)) := fun k hk => own_obj hP7.own hk
      have hD7 := (Keep.grow (S := fun _ => False) hG7).obj hJw.defers (fun h => h)
      have hb7 : Below w.heap.size w W7 := Below.trans hJw.below (Below.mono hG7 hJw.below.size)
      refine roundBody.mk hl7 fun w9 hg9 hl9 => ?_
      have hO9 := hO7.grown hg9 (by simp; omega)
      have hE9 := hE7.grown hg9 (by simp; omega)
      have hs9 := hs7.grown hg9 (by simp; omega)
      have hP9 := hP7.kept (Keep.grown hg9) fun k hk cs t ht => by
       injection hk with hk
       subst hk
       rw [hl7] at ht
       cases ht
      have hown9 := Keep.own (Keep.grown hg9) hown8 fun k hk hs => by
       injection hs with hs
       obtain ⟨cur, q⟩ := own_obj hown8 hk
       rw [← hs, hl7] at q
       cases q
      obtain ⟨A9, c9, rfl, -, -, -⟩ := own_reads hP9.own
      have hcO1 := hO9.cell 1
      have hfO1 := hO9.frozen 1
      have hcs0 := hs9.cell 0
      have hcs1 := hs9.cell 1
      have hcs2 := hs9.cell 2
      have hcs3 := hs9.cell 3
      have shardTy : AppTy Tryz.prog 22 52 (.agg #[.int .i64 0, .int .i64 0, .int .u32 0, .slice none 0 0]) 4 48 := AppTy.mk' Tryz.underlying22 (by kernel_rfl) rfl (by decide)
      have hnewx : ∀ (j : Nat) (y : Value) (k : Nat), vs0[j]? = some y → y.ownBlock = some k → k < W0'.heap.size := fun j y k h1 h2 => (hP0.lt h1 h2).2
      have hBw : w.heap.size ≤ W0'.heap.size := hJ.below.size
      have HP3 := Lib.hid (hP9.grow (Grow.alloc w9 (.cells #[.int .i64 s.num, .int .i64 s.size, .int .u32 (s.sum.toNat : Int), .slice A8 s.dead.length c8] 52)))
      have Hown3 := Lib.hid (own_below hown9 (Grow.alloc w9 (.cells #[.int .i64 s.num, .int .i64 s.size, .int .u32 (s.sum.toNat : Int), .slice A8 s.dead.length c8] 52)))
      have Hrd3 := Lib.hid (ReadsAt.madeS w9 52 4 [.int .i64 s.num, .int .i64 s.size, .int .u32 (s.sum.toNat : Int), .slice A8 s.dead.length c8] rfl)
      have Hz3 := Lib.hid (show w.heap.size ≤ (w9.alloc (.cells #[.int .i64 s.num, .int .i64 s.size, .int .u32 (s.sum.toNat : Int), .slice A8 s.dead.length c8] 52)).heap.size from Nat.le_trans (Nat.le_trans hb7.size hg9.size) (by simp))
      have HO3 := Lib.hid (hO9.alloc (.cells #[.int .i64 s.num, .int .i64 s.size, .int .u32 (s.sum.toNat : Int), .slice A8 s.dead.length c8] 52))
      have HneO := Lib.hid (show some w.heap.size ≠ (Value.slice A9 ss.length c9).ownBlock from fun e => by
       obtain ⟨cur, q⟩ := hvty _ e.symm
       rw [show W7.heap[w.heap.size]? = _ from hO7] at q
       cases q)
      have hsl : ss.length + 1 ≤ 41 := by omega
      have Hlen7 := Lib.hid hlen7
      clear hP9 hown9 hlen7
      gi_wp2_with (gi_at_builtin; refine wpListIn_append_reads _ rfl (.tmp 45) (.tmp 47) rfl shardTy rfl HP3.out.own rfl Hrd3.out (by simp [Value.oneCell']) (by simp only [maxLen]; omega) (by omega) Hz3.out ?_; intro v' wq hown4 hgrow4 hat4; obtain ⟨A10, c10, rfl, -, -, -⟩ := own_reads hown4; have hO4 := HO3.out.grown hgrow4 HneO.out; have hcO4 := hO4.cell 1; have hfO4 := hO4.frozen 1; have Hown4 := Lib.hid hown4; have Hgrow4 := Lib.hid hgrow4; clear hown4 hgrow4 hat4)
      obtain ⟨Wz, hWz⟩ : ∃ Wz, wq.setCell ⟨w.heap.size, 1, none⟩ (.slice A10 (ss.length + 1) c10) = Wz := ⟨_, rfl⟩
      have hOz : Blk Wz w.heap.size 24 #[.int .i64 (N1.1 : Int), .slice A10 (ss.length + 1) c10] := by rw [← hWz]; exact hO4.set 1 (.slice A10 (ss.length + 1) c10)
      have hkz : Keep (fun j => j = w.heap.size) wq Wz := by rw [← hWz]; exact Keep.setCell wq ⟨w.heap.size, 1, none⟩ (.slice A10 (ss.length + 1) c10)
      rw [hWz]
      clear hWz
      obtain ⟨S, hSdef⟩ : ∃ S : Nat → Prop, S = fun j => j = w3.heap.size + 1 ∨ j = w.heap.size ∨ (Value.slice A9 ss.length c9).ownBlock = some j := ⟨_, rfl⟩
      have hSof : ∀ j, (j = w3.heap.size + 1 ∨ j = w.heap.size ∨ (Value.slice A9 ss.length c9).ownBlock = some j) → S j := fun j h => by rw [hSdef]; exact h
      have hSis : ∀ j, S j → (j = w3.heap.size + 1 ∨ j = w.heap.size ∨ (Value.slice A9 ss.length c9).ownBlock = some j) := fun j h => by rw [hSdef] at h; exact h
      clear hSdef
      have hk9z : Keep S w9 Wz := ((Keep.grow (S := S) (Grow.alloc w9 (.cells #[.int .i64 s.num, .int .i64 s.size, .int .u32 (s.sum.toNat : Int), .slice A8 s.dead.length c8] 52))).trans' ((Keep.grown Hgrow4.out).mono fun j hj => Or.inl (hSof j (Or.inr (Or.inr hj))))).trans' (hkz.mono fun j hj => Or.inl (hSof j (Or.inr (Or.inl hj))))
      have hk7z : Keep S W7 Wz := ((Keep.grown hg9).mono fun j hj => Or.inl (hSof j (Or.inl (by injection hj with hj; exact hj.symm)))).trans' hk9z
      have hSty : ∀ j, S j → ∀ cs u, W7.heap[j]? = some (.cells cs u (0, 0)) → u = 24 ∨ u = 52 := fun j hj cs u hu => by
       rcases hSis j hj with h | h | h
       ·rw [h, hl7] at hu; cases hu
       ·rw [h, show W7.heap[w.heap.size]? = _ from hO7] at hu; cases hu; exact Or.inl rfl
       ·obtain ⟨cur, q⟩ := hvty j h
        rw [q] at hu; cases hu; exact Or.inr rfl
      have hSge : ∀ j, S j → w.heap.size ≤ j := fun j hj => by
       rcases hSis j hj with h | h | h
       ·omega
       ·omega
       ·exact (hP7.own.lt j h).1
      have hSD : ¬ S w3.heap.size := fun hj => by
       rcases hSis _ hj with h | h | h
       ·omega
       ·omega
       ·obtain ⟨cur, q⟩ := hvty _ h
        rw [hD7] at q; cases q
      have hSof2 : ∀ (k : Nat) (cs : Array Value) (u : TypeId), W7.heap[k]? = some (.cells cs u (0, 0)) → u ≠ 24 → u ≠ 52 → ¬ S k := fun k cs u hu h1 h2 hs => by
       rcases hSty k hs cs u hu with h | h
       ·exact h1 h
       ·exact h2 h
      have hlz : Wz.heap[w3.heap.size + 1]? = _ := hkz.obj ((Keep.grown Hgrow4.out).obj ((Keep.grow (S := fun _ => False) (Grow.alloc w9 (.cells #[.int .i64 s.num, .int .i64 s.size, .int .u32 (s.sum.toNat : Int), .slice A8 s.dead.length c8] 52))).obj hl9 (fun h => h)) (fun e => by
       obtain ⟨cur, q⟩ := hvty _ e
       rw [hl7] at q; cases q)) (by omega)
      have hP4 := HP3.out.snoc Hown3.out hBw hnewx Hown4.out Hgrow4.out
      have hPz := hP4.kept hkz fun k hk cs u hu => by
       rw [hk, show wq.heap[w.heap.size]? = _ from hO4] at hu; cases hu; decide
      refine roundEnd.on hlz fun w' hg' hl' => ?_
      have hkf : Keep S W7 w' := hk7z.trans' ((Keep.grown hg').mono fun j hj => Or.inl (hSof j (Or.inl (by injection hj with hj; exact hj.symm))))
      have hd7' := hd7.grow hG7
      have hrg7 := hd7'.cell
      have hbx1 := Grow.blkOf hG7 (show Blk W' (b2 + 1) 3 #[_] from hbm7)
      have hbx2 := Grow.blkOf hG7 (show Blk W' b2 104 #[_] from hbr7)
      have hbx3 := Grow.blkOf hG7 hrw
      refine ⟨rfl, ⟨⟨hl', hkf.obj hD7 hSD, ⟨_, _, hOz.grown hg' (by simp; omega), hPz.kept (Keep.grown hg') fun k hk cs u hu => ?_⟩, hkf.blk hE7 (hSof2 _ _ _ hE7 (by decide) (by decide)), Below.trans hb7 (hkf.below hSge hb7.size)⟩, hkf.blk hbx3 (hSof2 _ _ _ hbx3 (by decide) (by decide))⟩, hd7'.kept hkf (hSof2 _ _ _ hrg7 (by decide) (by decide)) (fun ad e hs => ?_), hkf.blk hbx1 (hSof2 _ _ _ hbx1 (by decide) (by decide)), hkf.blk hbx2 (hSof2 _ _ _ hbx2 (by decide) (by decide))⟩
      ·injection hk with hk
       rw [← hk, hlz] at hu
       cases hu
      ·obtain ⟨cs, q⟩ := hd7'.ty ad e
       exact hSof2 _ _ _ q (by decide) (by decide) hs
     case after =>
      rintro e W7 ⟨⟨vv, rfl⟩, ss, A9, n9, c9, l9, b9, ⟨hJ7, hr7⟩, hd9, hs9, hss, hl9⟩
      clear hJ0 hg6 hD6 hlp6 hkn
      obtain ⟨v, vs, hO7, hP7⟩ := hJ7.out
      refine ⟨vv, .ready, none, rfl, by simp, hJ7.loop, fun W8 hg8 => ?_⟩
      have hnl : ∀ (k : Nat) (cs : Array Value) (u : TypeId), W7.heap[k]? = some (.cells cs u (0, 0)) → k ≠ w3.heap.size + 1 := fun k cs u hu e => by
       rw [e, hJ7.loop] at hu
       cases hu
      have hO8 := hO7.grown hg8 (by simp; omega)
      have hE8 := hJ7.err.grown hg8 (by simp; omega)
      have hr8 := hr7.grown hg8 (by simp; exact fun e => hnl _ _ _ hr7 e)
      have hD8 := (hg8.block _ (Array.getElem?_eq_some_iff.1 hJ7.defers).1 (by simp)).trans hJ7.defers
      have hP8 : ShardsOwn w.heap.size W8 v ss vs := hP7.kept (Keep.grown hg8) fun k hk cs t ht => by
       injection hk with hk
       subst hk
       rw [hJ7.loop] at ht
       cases ht
      have hb8 : Below w.heap.size w W8 := Below.grown hJ7.below hg8 hJ7.below.size (fun q hq => by injection hq with hq; omega)
      have hd8 : Rd W8 g A9 n9 c9 l9 b9 := hd9.kept (Keep.grown hg8) (fun e => by injection e with e; exact hnl _ _ _ hd9.cell e.symm) (fun ad e hs => by
       obtain ⟨cs, q⟩ := hd9.ty ad e
       injection hs with hs
       exact hnl _ _ _ q hs.symm)
      obtain ⟨T, hT⟩ : ∃ T, T = getShards N2.1 N2.2 := ⟨_, rfl⟩
      rw [hs6, ← hT] at hs9 hss
      have hgm : getF b = if T.2 = some [] ∧ maniRight ⟨(N1.1 : Int), T.1⟩ = true then some ⟨(N1.1 : Int), T.1⟩ else none := by
       rw [getF_one hgb htag, getM, ← HN1.out, ← HN2.out, ← hT]
      have hTs : ∀ s ∈ T.1, s.dead.length ≤ 17592186044416 ∧ Wide64 s.num ∧ Wide64 s.size ∧ ∀ x ∈ s.dead, Wide64 x := by rw [hT]; exact getShards_small _ _
      have hcr8 := hr8.cell 0
      have HOK := Lib.hid (ROK_any W8 g A9 n9 c9 l9 b9 hd8)
      have HLe := Lib.hid (RLeft_any W8 g A9 n9 c9 l9 b9 hd8)
      have hTl : T.1.length ≤ 40 := by rw [hT]; exact Nat.le_trans (getShards_le _ _) hN2le
      have hN1le : N1.1 ≤ 1099511627776 := by rw [HN1.out]; exact num_le 1099511627776 _
      clear hJ7 hP7 hO7 hd9 hr7 hT
      cases b9 with
      | true =>
       have hgf : getF b = none := by
        rw [hgm, if_neg]
        rintro ⟨h, -⟩
        rw [← hs9] at h
        cases h
       clear hgm hTs hs9 hss
       gi_wp2_with (refine ⟨trivial, ?_⟩; gi_at_call 50; refine (callsIn_wide.2 HOK.out).mono ?_; rintro e w' ⟨rfl, rfl⟩)
       refine ⟨trivial, ?_⟩
       gi_wp2
       refine ⟨trivial, ?_⟩
       gi_wp2_with (refine ⟨trivial, ?_⟩; gi_at_call 46; refine (callsIn_wide.2 (mmust_no _)).mono ?_; rintro e w' ⟨rfl, rfl⟩)
       refine leaves_mark_tail (by simp) hD8 fun w1 ho => ?_
       have hkM := Keep.only ho
       exact mget_panic w w1 b _ _ _ _ (hkM.blk hO8 (by simp; omega)) (hkM.blk hE8 (by simp; omega)) (Below.trans hb8 (ho.below fun m hm => by simp at hm; omega)) hgf rfl rfl
      | false =>
       have hTst : T.2 = some l9 := hs9.symm
       obtain rfl : ss = T.1 := hss rfl
       have hLe2 : Calls Tryz.prog 51 #[.pointer (some ⟨g, 0, none⟩)] W8 fun e w' => e = .returned (.int .i64 (l9.length : Int)) ∧ W8 = w' := HLe.out
       clear HLe hss hs9
       have HLe := Lib.hid hLe2
       clear hLe2
       by_cases hl0 : l9.length = 0
       ·have dl : ((l9.length : Int) == 0) = true := by rw [hl0]; rfl
        obtain ⟨A10, c10, rfl, h1, h2, h3⟩ := hP8.reads hTs
        have hlen : T.1.length ≤ 4398046510976 := by omega
        have hA : ManiAt W8 W8.heap.size (.agg #[.int .i64 (N1.1 : Int), .slice A10 T.1.length c10]) ⟨(N1.1 : Int), T.1⟩ := ⟨⟨A10, _, c10, rfl, h1, h2, hlen, h3⟩, by unfold Wide64; exact ⟨by simp only []; omega, by simp only []; omega⟩⟩
        obtain ⟨r, hr⟩ : ∃ r, r = maniRight ⟨(N1.1 : Int), T.1⟩ := ⟨_, rfl⟩
        have HR := Lib.hid (Right_any W8 _ _ hA r hr)
        have hcO0 := hO8.cell 0
        have hcO1 := hO8.cell 1
        have Hr := Lib.hid hr
        have HP8 := Lib.hid hP8
        clear hr hA h3 hP8
        gi_wp2_with (refine ⟨trivial, ?_⟩; gi_at_call 50; refine (callsIn_wide.2 HOK.out).mono ?_; rintro e w' ⟨rfl, rfl⟩)
        refine ⟨trivial, ?_⟩
        gi_at_call 51
        refine (callsIn_wide.2 HLe.out).mono ?_
        rintro e w' ⟨rfl, rfl⟩
        gi_wp2
        refine ⟨trivial, ?_⟩
        gi_at_call 12
        refine (callsIn_wide.2 HR.out).mono ?_
        rintro e W10 ⟨rfl, hG10⟩
        have hO10 := Grow.blkOf hG10 hO8
        have hE10 := Grow.blkOf hG10 hE8
        have hD10 := (Keep.grow (S := fun _ => False) hG10).obj hD8 (fun h => h)
        have hb10 : Below w.heap.size w W10 := Below.trans hb8 (Below.mono hG10 hb8.size)
        have HP10 := Lib.hid (HP8.out.grow hG10)
        clear hcO0 hcO1 HP8 hO8 hE8 hD8 HR HOK HLe
        cases r with
        | false =>
         have hgf : getF b = none := by
          rw [hgm, if_neg]
          rintro ⟨-, h⟩
          rw [← Hr.out] at h
          cases h
         gi_wp2_with (refine ⟨trivial, ?_⟩; gi_at_call 46; refine (callsIn_wide.2 (mmust_no _)).mono ?_; rintro e w' ⟨rfl, rfl⟩)
         refine leaves_mark_tail (by simp) hD10 fun w1 ho => ?_
         have hkM := Keep.only ho
         exact mget_panic w w1 b _ _ _ _ (hkM.blk hO10 (by simp; omega)) (hkM.blk hE10 (by simp; omega)) (Below.trans hb10 (ho.below fun m hm => by simp at hm; omega)) hgf rfl rfl
        | true =>
         have hgf : getF b = some ⟨(N1.1 : Int), T.1⟩ := by
          rw [hgm, if_pos]
          refine ⟨?_, Hr.out.symm⟩
          rw [hTst, List.length_eq_zero_iff.1 hl0]
         clear hgm
         have hcO0 := hO10.cell 0
         have hcO1 := hO10.cell 1
         have hfO0 := hO10.frozen 0
         have hO11 := hO10.set 0 (.int .i64 (N1.1 : Int))
         have hcO11 := hO11.cell 1
         have hfO11 := hO11.frozen 1
         have hE11 := (hE10.far (p := ⟨w.heap.size, 0, none⟩) (by simp) (.int .i64 (N1.1 : Int))).far (p := ⟨w.heap.size, 1, none⟩) (by simp) (.slice A10 T.1.length c10)
         have hcE0 := hE11.cell 0
         have hfE0 := hE11.frozen 0
         gi_wp2_with (refine ⟨trivial, ?_⟩; gi_at_call 46; refine (callsIn_wide.2 (mmust_yes _)).mono ?_; rintro e w' ⟨rfl, rfl⟩)
         obtain ⟨W11, hW11⟩ : ∃ W11, ((W10.setCell ⟨w.heap.size, 0, none⟩ (.int .i64 (N1.1 : Int))).setCell ⟨w.heap.size, 1, none⟩ (.slice A10 T.1.length c10)).setCell ⟨w.heap.size + 1, 0, none⟩ (.int .i64 0) = W11 := ⟨_, rfl⟩
         rw [hW11]
         have hOz : Blk W11 w.heap.size 24 #[.int .i64 (N1.1 : Int), .slice A10 T.1.length c10] := by
          have h1 := (hO11.set 1 (.slice A10 T.1.length c10)).far (p := ⟨w.heap.size + 1, 0, none⟩) (by simp) (.int .i64 0)
          rw [hW11] at h1
          simpa using h1
         have hEz : Blk W11 (w.heap.size + 1) 29 #[.int .i64 0] := by
          have h1 := hE11.set 0 (.int .i64 0)
          rw [hW11] at h1
          simpa using h1
         have hkz : Keep (fun j => j = w.heap.size ∨ j = w.heap.size + 1) W10 W11 := by
          rw [← hW11]
          exact (((Keep.setCell W10 ⟨w.heap.size, 0, none⟩ _).mono fun j hj => Or.inl (Or.inl hj)).trans' ((Keep.setCell _ ⟨w.heap.size, 1, none⟩ _).mono fun j hj => Or.inl (Or.inl hj))).trans' ((Keep.setCell _ ⟨w.heap.size + 1, 0, none⟩ _).mono fun j hj => Or.inl (Or.inr hj))
         clear hW11
         have hDz := hkz.obj hD10 (by omega)
         have hbz2 : Below w.heap.size w W11 := Below.trans hb10 (hkz.below (fun k hk => by omega) hb10.size)
         have hPz := HP10.out.kept hkz fun k hk cs u hu => by
          rcases hk with rfl | rfl
          ·rw [show W10.heap[w.heap.size]? = _ from hO10] at hu; cases hu; decide
          ·rw [show W10.heap[w.heap.size + 1]? = _ from hE10] at hu; cases hu; decide
         refine leaves_mark_tail (by simp) hDz fun w1 ho => ?_
         have hkM := Keep.only ho
         have hO1 := hkM.blk hOz (by simp; omega)
         have hE1 := hkM.blk hEz (by simp; omega)
         have hP1 := hPz.kept hkM fun k hk cs u hu => by simp at hk; rw [hk, hDz] at hu; cases hu
         have hb1 : Below w.heap.size w w1 := Below.trans hbz2 (ho.below fun m hm => by simp at hm; omega)
         refine leavesM_cons (f := 44) (args := #[.pointer (some ⟨w.heap.size + 1, 0, none⟩), .pointer (some ⟨w.heap.size, 0, none⟩)]) (by simp) (by simp) (by simp [go_sem]) (fun _ _ => trivial) ?_
         refine (mGet1_idle 3 _ _ w1).mono ?_
         rintro e u' w' ⟨rfl, rfl, rfl⟩
         have hc0 := hO1.cell 0
         have hc1 := hO1.cell 1
         have he0 := hE1.cell 0
         have hl1 : (loadVar 24 ⟨w.heap.size, 0, none⟩).run Tryz.prog w' = .ok (.agg #[.int .i64 (N1.1 : Int), .slice A10 T.1.length c10]) w' := by go_simp
         have hl2 : (loadVar 29 ⟨w.heap.size + 1, 0, none⟩).run Tryz.prog w' = .ok (.int .i64 0) w' := by go_simp
         exact ⟨_, results_cells2 rfl _ w' w.heap.size (w.heap.size + 1) _ _ rfl rfl hl1 hl2, hb1, Or.inl ⟨_, _, _, hgf, rfl, hP1⟩⟩
       ·have dl : ((l9.length : Int) == 0) = false := by rw [beq_eq_false_iff_ne]; omega
        have hgf : getF b = none := by
         rw [hgm, if_neg]
         rintro ⟨h, -⟩
         rw [hTst] at h
         injection h with h
         rw [h] at hl0
         exact hl0 rfl
        clear hgm hTs
        gi_wp2_with (refine ⟨trivial, ?_⟩; gi_at_call 50; refine (callsIn_wide.2 HOK.out).mono ?_; rintro e w' ⟨rfl, rfl⟩)
        refine ⟨trivial, ?_⟩
        gi_at_call 51
        refine (callsIn_wide.2 HLe.out).mono ?_
        rintro e w' ⟨rfl, rfl⟩
        gi_wp2
        refine ⟨trivial, ?_⟩
        gi_wp2_with (refine ⟨trivial, ?_⟩; gi_at_call 46; refine (callsIn_wide.2 (mmust_no _)).mono ?_; rintro e w' ⟨rfl, rfl⟩)
        refine leaves_mark_tail (by simp) hD8 fun w1 ho => ?_
        have hkM := Keep.only ho
        exact mget_panic w w1 b _ _ _ _ (hkM.blk hO8 (by simp; omega)) (hkM.blk hE8 (by simp; omega)) (Below.trans hb8 (ho.below fun m hm => by simp at hm; omega)) hgf rfl rfl
   ·have d2 : ((t.tag.toNat : Int) == 1) = false := by rw [beq_eq_false_iff_ne]; intro h; exact htag (UInt8.toNat_inj.1 (by show t.tag.toNat = 1; omega))
    have hgf : getF b = none := by
     rw [getF, hgb]
     obtain ⟨tag, p⟩ := t
     split
     ·rename_i h; simp at h; exact absurd h.1 htag
     ·rfl
    gi_wp2_with (refine ⟨trivial, ?_⟩; gi_at_call 46; (first | (refine (callsIn_wide.2 (mmust_yes _)).mono ?_; rintro e w' ⟨rfl, rfl⟩) | (refine (callsIn_wide.2 (mmust_no _)).mono ?_; rintro e w' ⟨rfl, rfl⟩)))
    exact mget_panic w _ b _ _ _ _ hM1 hE1 hGw hgf rfl rfl
  ·have d1 : ((ts.length : Int) == 1) = false := by rw [beq_eq_false_iff_ne]; omega
   have hgf : getF b = none := by
    rw [getF, hgb]
    split
    ·rename_i h; simp at h; rw [h] at hlen; simp at hlen
    ·rfl
   gi_wp2_with (refine ⟨trivial, ?_⟩; gi_at_call 46; refine (callsIn_wide.2 (mmust_no _)).mono ?_; rintro e w' ⟨rfl, rfl⟩)
   exact mget_panic w _ b _ _ _ _ hM1 hE1 hGw hgf rfl rfl
 ·have hM1 := Grow.blkOf hG1 hbM
  have hE1 := Grow.blkOf hG1 hbE
  have hGw := hG0.trans hG1
  have hgf : getF b = none := by rw [getF, hgb]
  gi_wp2_with (refine ⟨trivial, ?_⟩; gi_at_call 46; refine (callsIn_wide.2 (mmust_no _)).mono ?_; rintro e w' ⟨rfl, rfl⟩)
  exact mget_panic w _ b _ _ _ _ hM1 hE1 hGw hgf rfl rfl
end Go.Proofs.YtcimkoehcdfjdaaGreatDoor
