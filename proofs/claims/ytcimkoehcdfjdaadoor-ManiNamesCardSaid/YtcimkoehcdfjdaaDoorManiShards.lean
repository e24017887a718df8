/-
  The walks of mani's reader.shards, and of its closure.
-/
import Derived.Deep.MidRow
import Derived.Test.YtcimkoehcdfjdaaDoorManiGetKit
import Derived.Test.YtcimkoehcdfjdaaDoorRNumber
import Derived.Test.YtcimkoehcdfjdaaDoorFrameGet
import Derived.Test.YtcimkoehcdfjdaaDoorRRising
import Derived.Test.YtcimkoehcdfjdaaDoorBaseF
namespace Go.Proofs.YtcimkoehcdfjdaaDoor
open Go.RowKit Go.Shelf WireM
set_option linter.unusedVariables false
attribute [local go_sem] Oper.semAt_some

theorem shards_any (g : Nat) (many : Int) (w : World) : Calls Tryd.prog 37 #[.agg #[.pointer (some ⟨g, 0, none⟩)], .int .i64 many] w fun e w' => e = .returned (.func (.func 57) #[] #[.pointer (some ⟨w.heap.size + 1, 0, none⟩), .pointer (some ⟨w.heap.size, 0, none⟩)]) ∧ (w.alloc (.cells #[.pointer (some ⟨g, 0, none⟩)] 69)).alloc (.cells #[.int .i64 many] 3) = w' := by
  have hmf : ∀ (fn : Fn) (first cap : Array Value) (w : World), (Instr.makeFunc fn first cap).run Tryd.prog w = .ok (.func fn first cap) w := fun _ _ _ _ => rfl
  go_enter Tryd.func37, Tryd.ntmps37
  go_wp2
  go_ret
  exact ⟨rfl, rfl⟩

/-! a chain of a reader's calls within a drawn region -/
theorem RdAt.grown {w w1 w2 : World} {g : Nat} {st : St} {len : Nat} (h : RdAt w g st len w1) (hg : Grow w1 w2) : RdAt w g st len w2 := by
  obtain ⟨A, n, c, l, bad, h1, h2, h3, h4⟩ := h
  exact ⟨A, n, c, l, bad, h1.grow hg, h2, h3, h4.trans' (Keep.grow hg)⟩
def seqW (W0 : World) (g len : Nat) (val : Nat → Value) (st : Nat → St) (vals : List Value) (w : World) : Prop := (∀ j v, vals[j]? = some v → v = val j) ∧ RdAt W0 g (st vals.length) len w
theorem seqW.grow {W0 : World} {g len : Nat} {val : Nat → Value} {st : Nat → St} : ∀ (vals : List Value) (w w' : World), Grow w w' → seqW W0 g len val st vals w → seqW W0 g len val st vals w' := fun _ _ _ hg h => ⟨h.1, h.2.grown hg⟩
theorem seqW.next {W0 : World} {g len k : Nat} {val : Nat → Value} {st : Nat → St} {vals : List Value} {w w' : World} {A : Option Addr} {n c : Nat} {l : List UInt8} {bad : Bool} {st' : St} {v : Value} (h : seqW W0 g len val st vals w) (hr : Rd w g A n c l bad) (hl : l.length ≤ len) (hk : Keep (Own1 g) W0 w) (hn : RdAt w g st' l.length w') (hlen : vals.length = k) (hv : v = val k) (hst : st' = st (k + 1)) :
    Keep (Own1 g) w w' ∧ seqW W0 g len val st (vals ++ [v]) w' := by
  obtain ⟨A1, n1, c1, l1, b1, h1, h2, h3, h4⟩ := hn
  refine ⟨h4, fun j u hj => ?_, A1, n1, c1, l1, b1, h1, ?_, Nat.le_trans h3 hl, hk.trans' h4⟩
  · by_cases hjv : j < vals.length
    · rw [List.getElem?_append_left hjv] at hj
      exact h.1 j u hj
    · rw [List.getElem?_append_right (by omega)] at hj
      have hj0 : j - vals.length = 0 := by
        rcases Nat.lt_or_ge (j - vals.length) 1 with h | h
        · omega
        · rw [List.getElem?_eq_none (by simpa using h)] at hj
          cases hj
      rw [hj0] at hj
      obtain rfl : v = u := by simpa using hj
      rw [show j = k by omega]
      exact hv
  · rw [h2, List.length_append, hlen]
    exact hst
theorem seqW.start {W0 : World} {g : Nat} {val : Nat → Value} {st : Nat → St} {A : Option Addr} {n c : Nat} {l : List UInt8} {bad : Bool} (h : Rd W0 g A n c l bad) (hs : stOf l bad = st 0) : seqW W0 g l.length val st [] W0 := ⟨fun j v hj => by simp at hj, A, n, c, l, bad, h, hs, Nat.le_refl _, Keep.refl _ _⟩
theorem seqW.v {W0 : World} {g len : Nat} {val : Nat → Value} {st : Nat → St} {vals : List Value} {w : World} {j : Nat} {v : Value} (h : seqW W0 g len val st vals w) (hv : vals[j]? = some v) : v = val j := h.1 j v hv
/-- a pointer to a new block -/
def FactOn.newP {S : Nat → Prop} (B0 : Nat) (hS : ∀ k, S k → k < B0) (t : TypeId) (cs : Array Value) : FactOn (Keep S) :=
  ⟨fun u w => ∃ m, u = .pointer (some ⟨m, 0, none⟩) ∧ B0 ≤ m ∧ Blk w m t cs, fun _ _ _ hk ⟨m, h1, h2, h3⟩ => ⟨m, h1, h2, hk.blk h3 (fun hs => by have := hS m hs; omega)⟩⟩
theorem lastQ.store {P : Program} {o : Oper} {Q : Exit → Act → World → Prop} {a : Act} {w : World} (ty : TypeId) (s1 s2 : Nat) (ho : o.op = .store ty (.tmp s1) (.tmp s2)) {u1 u2 : Value} (b : Nat) (cells : Array Value) (h1 : a.tmps[s1]? = some u1) (hu1 : u1 = .pointer (some ⟨b, 0, none⟩)) (h2 : a.tmps[s2]? = some u2) (hu2 : u2 = .agg cells)
    (ht : w.there b 0 cells.size) (hi : (P.info? ty).map (·.size) = some cells.size) (hone : cells.all (·.oneCell') = true) (h : Q .normal (a.put o.dst undef) (w.setCells b 0 cells.toList)) : lastQ P o Q .normal a w := by
  subst hu1 hu2
  exact Or.inl ⟨rfl, wp_store_mid ty (.tmp s1) (.tmp s2) ho b 0 cells (evalT h1) (evalT h2) ht hi hone h⟩
theorem lastQ.go {P : Program} {o : Oper} {Q : Exit → Act → World → Prop} {a : Act} {w : World} (h : o.wp P a w (Q .normal) Q) : lastQ P o Q .normal a w := Or.inl ⟨rfl, h⟩

theorem getShards_no {k : Nat} {l : List UInt8} (h : (getShard (some l)).2 = none) : getShards (k + 1) (some l) = ([], none) := by
  simp only [getShards, h]
theorem getShards_yes {k : Nat} {l l1 : List UInt8} (h : (getShard (some l)).2 = some l1) : getShards (k + 1) (some l) = ((getShard (some l)).1 :: (getShards k (some l1)).1, (getShards k (some l1)).2) := by
  simp only [getShards, h]

def shVal (N1 N2 : Nat × St) : Nat → Value
  | 0 => .int .i64 (N1.1 : Int)
  | _ => .int .i64 (N2.1 : Int)
def shSt (l : List UInt8) (N1 N2 : Nat × St) : Nat → St
  | 0 => some l
  | 1 => N1.2
  | _ => N2.2
/-- a shard as the closure hands it on -/
def shardV (s : ShardM) (v : Value) : Value := .agg #[.int .i64 s.num, .int .i64 s.size, .int .u32 (s.sum.toNat : Int), v]
/-- what the rounds leave -/
def ShardsTo (J : List ShardM → World → Prop) (g : Nat) (T : List ShardM × St) (len : Nat) (e : Ending) (W : World) : Prop := (∃ v, e = .returned v) ∧ ∃ ss A n c l bad, J ss W ∧ Rd W g A n c l bad ∧ stOf l bad = T.2 ∧ (bad = false → ss = T.1) ∧ l.length ≤ len

set_option maxRecDepth 100000 in
set_option maxHeartbeats 4000000 in
theorem shards1_any (m : Nat) (hm : 1 ≤ m) (lp Bm Br g many : Nat) (J : List ShardM → World → Prop)
    (hJ : ∀ (ss : List ShardM) (W W' : World), J ss W → (∃ cs, Blk W g 107 cs) → Keep (Own1 g) W W' → J ss W')
    (hY : ∀ (ss : List ShardM) (s : ShardM) (v : Value) (A : Option Addr) (n c : Nat) (l : List UInt8) (W0 W : World), ss.length < many → J ss W → Rd W g A n c l false → Boxed W Bm 3 (.int .i64 (many : Int)) → Boxed W Br 69 (.pointer (some ⟨g, 0, none⟩)) → J ss W0 → Keep (Own1 g) W0 W → (∃ cs, Blk W0 g 107 cs) → W.ownsRow W0.heap.size 3 1 v s.dead.length (s.dead.map i64v) →
      YieldAt Fence.wide (m - 1) Tryd.prog lp #[shardV s v] W fun e W' => e = .returned (.bool true) ∧ J (ss ++ [s]) W' ∧ Rd W' g A n c l false ∧ Boxed W' Bm 3 (.int .i64 (many : Int)) ∧ Boxed W' Br 69 (.pointer (some ⟨g, 0, none⟩)))
    (W : World) (A : Option Addr) (n c : Nat) (l : List UInt8) (bad : Bool) (hR : Rd W g A n c l bad) (hb : bad = true → many = 0) (hBm : Boxed W Bm 3 (.int .i64 (many : Int))) (hBr : Boxed W Br 69 (.pointer (some ⟨g, 0, none⟩))) (h0 : J [] W) (hmn : many ≤ 1000000) (hl : l.length ≤ 17592186044416) :
    CallsIn Fence.wide m Tryd.prog 57 #[.func (.yield lp) #[] #[], .pointer (some ⟨Bm, 0, none⟩), .pointer (some ⟨Br, 0, none⟩)] W (ShardsTo J g (getShards many (stOf l bad)) l.length) := by
  refine callsIn_of_wp Tryd.func57 rfl trivial ?_ rfl
  simp only [Tryd.ntmps57, List.size_toArray, List.length_cons, List.length_nil, Nat.reduceAdd, Nat.reduceSub, Array.replicate_succ, Array.replicate_zero, List.push_toArray, List.append_toArray, List.nil_append, List.cons_append]
  have HY := Lib.hid hY
  have HJ := Lib.hid hJ
  clear hY hJ
  have hcm0 := hBm.cell
  obtain ⟨T, hT⟩ : ∃ T, T = getShards many (stOf l bad) := ⟨_, rfl⟩
  rw [← hT]
  gi_wp2
  refine wpIn_wide.2 (wp_scope_straight ((wpIn_wide (n := m)).1 ?_))
  gi_wp2
  refine wpIn_label ?_
  gi_wp2
  gi_loopw [4, 6] (fun _ v6 wr => ∃ (k : Nat) (ss : List ShardM) (Ar : Option Addr) (nr cr : Nat) (lr : List UInt8) (br : Bool), k ≤ many ∧ v6 = .int .i64 (k : Int) ∧ Rd wr g Ar nr cr lr br ∧ lr.length ≤ l.length ∧ (br = true → many = 0) ∧ ss.length = k ∧ Hid (T = (ss ++ (getShards (many - k) (stOf lr br)).1, (getShards (many - k) (stOf lr br)).2)) ∧ Boxed wr Bm 3 (.int .i64 (many : Int)) ∧ Boxed wr Br 69 (.pointer (some ⟨g, 0, none⟩)) ∧ Hid (J ss wr)) (fun _ v6 _ => many - (intOf v6).toNat)
  case atStart => exact ⟨0, [], A, n, c, l, bad, by omega, rfl, hR, Nat.le_refl _, hb, rfl, by show _ = _; rw [hT]; simp, hBm, hBr, h0⟩
  case round =>
    obtain ⟨k, ss, Ar, nr, cr, lr, br, hk, rfl, hRr, hlr, hbr, hss, hTT, hBmr, hBrr, hj⟩ := hrel
    by_cases hlt : k < many
    · obtain rfl : br = false := by
        cases br with
        | false => rfl
        | true => have := hbr rfl; omega
      have hcB := hBrr.cell
      obtain ⟨N1, hN1⟩ : ∃ N1, N1 = num 1099511627776 (some lr) := ⟨_, rfl⟩
      obtain ⟨N2, hN2⟩ : ∃ N2, N2 = num 67108864 N1.2 := ⟨_, rfl⟩
      have HN1 := Lib.hid hN1
      have HN2 := Lib.hid hN2
      clear hN1 hN2
      have HBr := Lib.hid (show Blk wr Br 69 #[.pointer (some ⟨g, 0, none⟩)] from hBrr)
      have hBrg : ¬ Own1 g Br := fun e => by
        have h1 := hRr.cell
        have h2 := HBr.out
        rw [show Br = g from e] at h2
        unfold Blk at h1 h2
        rw [h2] at h1
        cases h1
      have hS : ∀ q, Own1 g q → q < wr.heap.size := fun q hq => by rw [show q = g from hq]; exact hRr.cell.lt
      gi_wp2
      refine wpIn_wide.2 (wp_region_stages (by kernel_rfl) ?_)
      refine anyOrder_pop rfl (by kernel_rfl) ?_
      refine anyOrder_start [2, 5] (Keep (Own1 g)) (seqW wr g lr.length (shVal N1 N2) (shSt lr N1 N2)) (FactsOn [.is (.pointer (some ⟨Br, 0, none⟩)), .is (.pointer (some ⟨g, 0, none⟩)), .any, .is (.pointer (some ⟨Br, 0, none⟩)), .is (.pointer (some ⟨g, 0, none⟩)), .any, .is (.agg #[.int .i64 (N1.1 : Int), .int .i64 (N2.1 : Int), .int .u32 0, .slice none 0 0]), .newP wr.heap.size hS 52 #[.int .i64 0, .int .i64 0, .int .u32 0, .slice none 0 0]]) (fun i => 99) keep_trans keep_grow (seqW.grow) (factsOn_mono _) (by kernel_rfl) (by kernel_rfl) (seqW.start hRr rfl) ?_ ?_
      · refine ⟨?_, ?_, ?_, ?_, ?_, ?_, ?_, ?_, trivial⟩
        · refine stageOf_free rfl (fun _ _ _ _ _ _ => wanted_none rfl) ?_
          intro us vals w3 a' ha hle hW hd hv K hK
          have q2 : a'.tmps[2]? = some (.pointer (some ⟨Br, 0, none⟩)) := slot_old ha (by kernel_rfl) (by kernel_rfl)
          refine step_value (v := .pointer (some ⟨Br, 0, none⟩)) (w2 := w3) ?_ (hK _ _ (Grow.refl _) rfl)
          go_simp
        · refine stageOf_free rfl (fun _ _ _ _ _ _ => wanted_none rfl) ?_
          intro us vals w3 a' ha hle hW hd hv K hK
          obtain ⟨d0, _⟩ := hd
          have q8 : a'.tmps[8]? = some (us 0) := slot_get ha 0 (by kernel_rfl) (by kernel_rfl)
          rw [show us 0 = .pointer (some ⟨Br, 0, none⟩) from d0] at q8
          have hc := (hle.blk HBr.out hBrg).cell 0
          refine step_value (v := .pointer (some ⟨g, 0, none⟩)) (w2 := w3) ?_ (hK _ _ (Grow.refl _) rfl)
          go_simp
        · refine stageOf_mem (t := 0) rfl ?_
          intro us vals w3 a' ha hle hW hd hv
          obtain ⟨d1, _⟩ := hd
          obtain rfl := List.eq_nil_of_length_eq_zero (Nat.le_zero.1 (show vals.length ≤ 0 from Nat.le_of_eq hv))
          refine ⟨wanted_none rfl, fun K hK => ?_⟩
          have q9 : a'.tmps[9]? = some (us 1) := slot_get ha 1 (by kernel_rfl) (by kernel_rfl)
          rw [show us 1 = .pointer (some ⟨g, 0, none⟩) from d1] at q9
          obtain ⟨A4, n4, c4, l4, b4, hd4, hs4, hl4, hk4⟩ := hW.2
          refine step_call (f := 36) (args := #[.pointer (some ⟨g, 0, none⟩), .int .i64 1099511627776]) (by go_simp) ?_
          have hn := RNumber_any w3 g A4 n4 c4 l4 b4 1099511627776 hd4
          have hs5 : stOf l4 b4 = some lr := hs4
          rw [hs5, ← HN1.out] at hn
          refine hn.mono ?_
          rintro e w4 ⟨rfl, hR5⟩
          obtain ⟨hk5, hW5⟩ := seqW.next (k := 0) hW hd4 hl4 hk4 hR5 rfl rfl rfl
          exact ⟨_, rfl, hK _ _ hk5 hW5⟩
        · refine stageOf_free rfl (fun _ _ _ _ _ _ => wanted_none rfl) ?_
          intro us vals w3 a' ha hle hW hd hv K hK
          have q2 : a'.tmps[2]? = some (.pointer (some ⟨Br, 0, none⟩)) := slot_old ha (by kernel_rfl) (by kernel_rfl)
          refine step_value (v := .pointer (some ⟨Br, 0, none⟩)) (w2 := w3) ?_ (hK _ _ (Grow.refl _) rfl)
          go_simp
        · refine stageOf_free rfl (fun _ _ _ _ _ _ => wanted_none rfl) ?_
          intro us vals w3 a' ha hle hW hd hv K hK
          obtain ⟨d3, _⟩ := hd
          have q11 : a'.tmps[11]? = some (us 3) := slot_get ha 3 (by kernel_rfl) (by kernel_rfl)
          rw [show us 3 = .pointer (some ⟨Br, 0, none⟩) from d3] at q11
          have hc := (hle.blk HBr.out hBrg).cell 0
          refine step_value (v := .pointer (some ⟨g, 0, none⟩)) (w2 := w3) ?_ (hK _ _ (Grow.refl _) rfl)
          go_simp
        · refine stageOf_mem (t := 1) rfl ?_
          intro us vals w3 a' ha hle hW hd hv
          obtain ⟨d4, _, _⟩ := hd
          obtain ⟨x0, rfl⟩ := List.length_eq_one_iff.1 hv
          refine ⟨wanted_none rfl, fun K hK => ?_⟩
          have q12 : a'.tmps[12]? = some (us 4) := slot_get ha 4 (by kernel_rfl) (by kernel_rfl)
          rw [show us 4 = .pointer (some ⟨g, 0, none⟩) from d4] at q12
          obtain ⟨A4, n4, c4, l4, b4, hd4, hs4, hl4, hk4⟩ := hW.2
          refine step_call (f := 36) (args := #[.pointer (some ⟨g, 0, none⟩), .int .i64 67108864]) (by go_simp) ?_
          have hn := RNumber_any w3 g A4 n4 c4 l4 b4 67108864 hd4
          have hs5 : stOf l4 b4 = N1.2 := hs4
          rw [hs5, ← HN2.out] at hn
          refine hn.mono ?_
          rintro e w4 ⟨rfl, hR5⟩
          obtain ⟨hk5, hW5⟩ := seqW.next (k := 1) hW hd4 hl4 hk4 hR5 rfl rfl rfl
          exact ⟨_, rfl, hK _ _ hk5 hW5⟩
        · refine stageOf_free rfl (fun _ _ _ _ _ _ => wanted_none rfl) ?_
          intro us vals w3 a' ha hle hW hd hv K hK
          obtain ⟨d2, d5, _⟩ := hd
          have q10 : a'.tmps[10]? = some (us 2) := slot_get ha 2 (by kernel_rfl) (by kernel_rfl)
          have q13 : a'.tmps[13]? = some (us 5) := slot_get ha 5 (by kernel_rfl) (by kernel_rfl)
          have e2 : us 2 = .int .i64 (N1.1 : Int) := hW.v d2
          have e5 : us 5 = .int .i64 (N2.1 : Int) := hW.v d5
          rw [e2] at q10
          rw [e5] at q13
          refine step_value (v := .agg #[.int .i64 (N1.1 : Int), .int .i64 (N2.1 : Int), .int .u32 0, .slice none 0 0]) (w2 := w3) ?_ (hK _ _ (Grow.refl _) rfl)
          go_simp
        · refine stageOf_free rfl (fun _ _ _ _ _ _ => wanted_none rfl) ?_
          intro us vals w3 a' ha hle hW hd hv K hK
          exact step_value (v := .pointer (some ⟨w3.heap.size, 0, none⟩)) (w2 := w3.alloc (.cells #[.int .i64 0, .int .i64 0, .int .u32 0, .slice none 0 0] 52)) (by go_simp) (hK _ _ (Grow.alloc _ _) ⟨w3.heap.size, rfl, hle.size, Blk.new _ _ _⟩)
      · intro us vals w3 hle hvl hV hch hf
        obtain ⟨x1, x2, rfl⟩ : ∃ x1 x2, vals = [x1, x2] := by
          match vals, hvl with
          | [a, b], _ => exact ⟨a, b, rfl⟩
        have h6 : us 6 = .agg #[.int .i64 (N1.1 : Int), .int .i64 (N2.1 : Int), .int .u32 0, .slice none 0 0] := hf 6 (by decide) rfl
        obtain ⟨mb, h7, hmz, hmb⟩ : ∃ m, us 7 = .pointer (some ⟨m, 0, none⟩) ∧ wr.heap.size ≤ m ∧ Blk w3 m 52 #[.int .i64 0, .int .i64 0, .int .u32 0, .slice none 0 0] := hf 7 (by decide) rfl
        refine lastQ.store 52 4 14 rfl mb #[.int .i64 (N1.1 : Int), .int .i64 (N2.1 : Int), .int .u32 0, .slice none 0 0] (u1 := us 7) (u2 := us 6) (by kernel_rfl) h7 (by kernel_rfl) h6 (fun j hj => ?_) (by kernel_rfl) (by simp [Value.oneCell']) ?_
        · rw [hmb.cell]
          have hj : j < 4 := hj
          refine ⟨?_, hmb.frozen _⟩
          match j, hj with
          | 0, _ | 1, _ | 2, _ | 3, _ => rfl
        · obtain ⟨A4, n4, c4, l4, b4, hd4, hs4, hl4, hk4⟩ := hV.2
          obtain ⟨W2, hW2⟩ : ∃ W2, w3.setCells mb 0 [.int .i64 (N1.1 : Int), .int .i64 (N2.1 : Int), .int .u32 0, .slice none 0 0] = W2 := ⟨_, rfl⟩
          have hk23 : Keep (fun j => j = mb) w3 W2 := by rw [← hW2]; exact setCells_keep mb _ w3 0
          have hb2 : Blk W2 mb 52 #[.int .i64 (N1.1 : Int), .int .i64 (N2.1 : Int), .int .u32 0, .slice none 0 0] := by
            rw [← hW2]
            exact setCells_blk [.int .i64 (N1.1 : Int), .int .i64 (N2.1 : Int), .int .u32 0, .slice none 0 0] (w := w3) (b := mb) (t := 52) (L := [.int .i64 0, .int .i64 0, .int .u32 0, .slice none 0 0]) hmb 0
          have hgl := hRr.cell.lt
          have hd2 : Rd W2 g A4 n4 c4 l4 b4 := hd4.kept hk23 (by omega) (fun ad e => by have := hd4.apart ad e; omega)
          have hK2 : Keep (Own1 g) wr W2 := hle.trans hk23 (fun j hj => Or.inr (by rw [show j = mb from hj]; exact hmz))
          have hs2 : stOf l4 b4 = N2.2 := hs4
          rw [show (#[Value.int .i64 (N1.1 : Int), .int .i64 (N2.1 : Int), .int .u32 0, .slice none 0 0] : Array Value).toList = [.int .i64 (N1.1 : Int), .int .i64 (N2.1 : Int), .int .u32 0, .slice none 0 0] from rfl, hW2]
          have hg4 : ¬ Own1 g mb := fun e => by rw [show mb = g from e] at hmz; omega
          generalize ha2 : Act.put (fills _ _ _ _) _ _ = a2
          obtain rfl : a2 = { tmps := #[.func (.yield lp) #[] #[], .pointer (some ⟨Bm, 0, none⟩), .pointer (some ⟨Br, 0, none⟩), undef, us 7, .int .i64 (many : Int), .int .i64 (k : Int), .bool true, us 0, us 1, us 2, us 3, us 4, us 5, us 6, u15, u16, u17, u18, u19, u20, u21, u22, u23, u24, u25, u26, u27, u28, u29, u30, u31, u32, u33], defers := [] } := by rw [← ha2]; kernel_rfl
          rw [h7]
          clear ha2 hW2 hf hch hV hvl hmb hk23 hd4 hs4 hk4 hle
          have hcB2 := (hK2.blk HBr.out hBrg).cell 0
          obtain ⟨F3, hF3⟩ : ∃ F3, F3 = fixed N2.2 := ⟨_, rfl⟩
          have HF3 := Lib.hid hF3
          obtain ⟨y, hy⟩ : ∃ y : BitVec 32, y.toNat = F3.1 := ⟨BitVec.ofNat 32 F3.1, by rw [BitVec.toNat_ofNat]; exact Nat.mod_eq_of_lt (by rw [hF3]; exact fixed_lt _)⟩
          have Hy2 := Lib.hid (show y = BitVec.ofNat 32 F3.1 by rw [← hy]; simp)
          gi_wp2_with fail
          refine ⟨trivial, ?_⟩
          gi_at_call 53
          have hn := RFixed_any W2 g A4 n4 c4 l4 b4 hd2
          rw [hs2, ← hF3, ← hy] at hn
          refine (callsIn_wide.2 hn).mono ?_
          rintro e w5 ⟨rfl, A5, n5, c5, l5, b5, hd5, hs5, hl5, hk5⟩
          clear hn hd2 hF3 hy
          have hb5 := hk5.blk hb2 hg4
          have hc52 := hb5.cell 2
          have hf52 := hb5.frozen 2
          obtain ⟨w6, hw6⟩ : ∃ w6, w5.setCell ⟨mb, 2, none⟩ (.int .u32 (y.toNat : Int)) = w6 := ⟨_, rfl⟩
          have hk56 : Keep (fun j => j = mb) w5 w6 := by rw [← hw6]; exact Keep.setCell w5 ⟨mb, 2, none⟩ _
          have hb6 : Blk w6 mb 52 #[.int .i64 (N1.1 : Int), .int .i64 (N2.1 : Int), .int .u32 (y.toNat : Int), .slice none 0 0] := by rw [← hw6]; exact hb5.set 2 _
          have hd6 : Rd w6 g A5 n5 c5 l5 b5 := hd5.kept hk56 (by omega) (fun ad e => by have := hd5.apart ad e; omega)
          have hK6 : Keep (Own1 g) wr w6 := (hK2.trans' hk5).trans hk56 (fun j hj => Or.inr (by rw [show j = mb from hj]; exact hmz))
          have hcB6 := (hK6.blk HBr.out hBrg).cell 0
          obtain ⟨R4, hR4⟩ : ∃ R4, R4 = rising 4000 3999 F3.2 := ⟨_, rfl⟩
          have HR4 := Lib.hid hR4
          clear hb2 hK2 hd5 hk5 hb5 hcB2 hk56
          gi_wp2_with fail
          refine ⟨trivial, ?_⟩
          gi_at_call 58
          have hn := RRising_any w6 g A5 n5 c5 l5 b5 4000 3999 hd6 (by omega)
          rw [hs5, ← hR4] at hn
          refine (callsIn_wide.2 hn).mono ?_
          rintro e w7 ⟨r, B7, rfl, hB7, ho7, A7, n7, c7, l7, b7, hd7, hs7, hl7, hk7⟩
          clear hn hd6 hR4
          obtain ⟨Av, cv, rfl, -, -, -⟩ := own_reads ho7
          have hb7 := hk7.blk hb6 hg4
          have hc73 := hb7.cell 3
          have hf73 := hb7.frozen 3
          obtain ⟨w8, hw8⟩ : ∃ w8, w7.setCell ⟨mb, 3, none⟩ (.slice Av R4.1.length cv) = w8 := ⟨_, rfl⟩
          have hk78 : Keep (fun j => j = mb) w7 w8 := by rw [← hw8]; exact Keep.setCell w7 ⟨mb, 3, none⟩ _
          have hb8 : Blk w8 mb 52 #[.int .i64 (N1.1 : Int), .int .i64 (N2.1 : Int), .int .u32 (y.toNat : Int), .slice Av R4.1.length cv] := by rw [← hw8]; exact hb7.set 3 _
          have hd8 : Rd w8 g A7 n7 c7 l7 b7 := hd7.kept hk78 (by omega) (fun ad e => by have := hd7.apart ad e; omega)
          have hK8 : Keep (Own1 g) wr w8 := (hK6.trans' hk7).trans hk78 (fun j hj => Or.inr (by rw [show j = mb from hj]; exact hmz))
          have hcB8 := (hK8.blk HBr.out hBrg).cell 0
          have hlb6 := hb6.lt
          have hz8 := hK8.size
          have HK8 := Lib.hid hK8
          have Hs := Lib.hid (show getShard (some lr) = (⟨(N1.1 : Int), (N2.1 : Int), y, R4.1.map fun n : Nat => (n : Int)⟩, stOf l7 b7) by
            simp only [getShard, ← HN1.out, ← HN2.out, ← HF3.out, ← HR4.out, Hy2.out, hs7])
          have HO8 := Lib.hid (show w8.ownsRow wr.heap.size 3 1 (.slice Av R4.1.length cv) (R4.1.map fun n : Nat => (n : Int)).length ((R4.1.map fun n : Nat => (n : Int)).map i64v) by
            have h1 := hk78.own ho7 (fun q hq e => by have h2 := (ho7.lt q hq).1; rw [show q = mb from e] at h2; omega)
            rw [List.length_map, List.map_map]
            exact own_base h1 (Nat.le_trans hK6.size hB7))
          have Hj8 := Lib.hid (HJ.out ss wr w8 hj.out ⟨_, hRr.cell⟩ hK8)
          have hBm8 : Boxed w8 Bm 3 (.int .i64 (many : Int)) := hK8.blk hBmr (fun e => by
            have h1 := hRr.cell
            have h2 : Blk wr Bm 3 #[.int .i64 (many : Int)] := hBmr
            rw [show Bm = g from e] at h2
            unfold Blk at h1 h2
            rw [h2] at h1
            cases h1)
          have hBr8 : Boxed w8 Br 69 (.pointer (some ⟨g, 0, none⟩)) := hK8.blk HBr.out hBrg
          have hok := ROK_any w8 g A7 n7 c7 l7 b7 hd8
          have hcm0 := hb8.cell 0
          have hcm1 := hb8.cell 1
          have hcm2 := hb8.cell 2
          have hcm3 := hb8.cell 3
          have hlf : l7.length ≤ l.length := by omega
          clear hb6 hK6 hd7 hk7 hb7 hcB6 hk78 ho7 hK8
          cases b7 with
          | true =>
            have Hok := Lib.hid hok
            have Hfin := Lib.hid (show T.2 = none by
              rw [hTT.out, show many - k = (many - (k + 1)) + 1 by omega, stOf_false, getShards_no (by rw [Hs.out]; rfl)])
            clear hok hTT
            gi_wp2_with (refine ⟨trivial, ?_⟩; gi_at_call 38; refine (callsIn_wide.2 Hok.out).mono ?_; rintro e w' ⟨rfl, rfl⟩)
            refine ⟨(fun _ h => by cases h), ?_⟩
            gi_wp2
            rw [Exit.noGoto_normal]
            exact Go.Great.bodyPost_end0 rfl rfl ⟨⟨_, rfl⟩, ss, A7, n7, c7, l7, true, Hj8.out, hd8, by rw [Hfin.out]; rfl, (fun h => by cases h), hlf⟩
          | false =>
            obtain ⟨fn, tmps, assign, body, hyy, hRR⟩ := HY.out ss ⟨(N1.1 : Int), (N2.1 : Int), y, R4.1.map fun n : Nat => (n : Int)⟩ (.slice Av R4.1.length cv) A7 n7 c7 l7 wr w8 (by omega) Hj8.out hd8 hBm8 hBr8 hj.out HK8.out ⟨_, hRr.cell⟩ HO8.out
            unfold shardV at hyy
            have Hlt := Lib.hid hlt
            have Hok := Lib.hid hok
            have Hp2 := Lib.hid (show T = ((ss ++ [⟨(N1.1 : Int), (N2.1 : Int), y, R4.1.map fun n : Nat => (n : Int)⟩]) ++ (getShards (many - (k + 1)) (stOf l7 false)).1, (getShards (many - (k + 1)) (stOf l7 false)).2) by
              have h1 : (getShard (some lr)).2 = some l7 := by rw [Hs.out]; rfl
              rw [hTT.out, show many - k = (many - (k + 1)) + 1 by omega, stOf_false, getShards_yes h1, Hs.out]
              simp [stOf_false])
            clear hok hTT
            gi_wp2_with (refine ⟨trivial, ?_⟩; gi_at_call 38; refine (callsIn_wide.2 Hok.out).mono ?_; rintro e w' ⟨rfl, rfl⟩)
            refine hRR.mono ?_
            rintro e w9 ⟨rfl, hj9, hd9, hm9, hr9⟩
            have Hj9 := Lib.hid hj9
            clear hj9 hRR
            gi_wp2
            go_roundw
            case rel => exact ⟨k + 1, ss ++ [⟨(N1.1 : Int), (N2.1 : Int), y, R4.1.map fun n : Nat => (n : Int)⟩], A7, n7, c7, l7, false, Hlt.out, by go_num, hd9, hlf, (fun h => by cases h), by simp [hss], Hp2, hm9, hr9, Hj9⟩
            case measure => have h1 := Hlt.out; simp [intOf]; omega
    · obtain rfl : k = many := by omega
      have Hfin := Lib.hid (show T = (ss, stOf lr br) by rw [hTT.out, Nat.sub_self]; simp [getShards])
      clear hTT
      gi_wp2
      rw [Exit.noGoto_normal]
      exact Go.Great.bodyPost_end0 rfl rfl ⟨⟨_, rfl⟩, ss, Ar, nr, cr, lr, br, hj.out, hRr, by rw [Hfin.out], (fun _ => by rw [Hfin.out]), hlr⟩
end Go.Proofs.YtcimkoehcdfjdaaDoor
