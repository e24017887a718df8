/-
  The chain of append(append(append([]int{}, ..), x), ..) in a region that draws its order. No program is in sight but for the type of ints.
-/
import Derived.Test.YtamdejidkgnaeaaBaseE
import Derived.Test.YtamdejidkgnaeaaCurRef
namespace Go.Proofs.Ytamdejidkgnaeaa
open Go.RowKit CurM
set_option linter.unusedVariables false

/-- from one world to a later one: old blocks stay, and each block that is just the cell x -/
structure LeOne (B0 : Nat) (x : Int) (w w' : World) : Prop where
  os : w'.os = w.os
  tape : w'.tape = w.tape
  output : w'.output = w.output
  size : w.heap.size ≤ w'.heap.size
  block : ∀ k, k < w.heap.size → (k < B0 ∨ w.heap[k]? = some (.cells #[.int .i64 x] 3 (0, 0))) → w'.heap[k]? = w.heap[k]?
theorem leOne_trans {B0 : Nat} {x : Int} : ∀ a b c, LeOne B0 x a b → LeOne B0 x b c → LeOne B0 x a c := fun a b c h1 h2 =>
  ⟨h2.os.trans h1.os, h2.tape.trans h1.tape, h2.output.trans h1.output, Nat.le_trans h1.size h2.size, fun k hk h => by
    have e := h1.block k hk h
    rw [h2.block k (Nat.lt_of_lt_of_le hk h1.size) (by rcases h with h | h; exact Or.inl h; exact Or.inr (e.trans h)), e]⟩
theorem leOne_grow {B0 : Nat} {x : Int} : ∀ a b, Grow a b → LeOne B0 x a b := fun a b h => ⟨h.os, h.tape, h.output, h.size, fun k hk _ => h.block k hk⟩
theorem LeOne.low {B0 : Nat} {x : Int} {w w' : World} (h : LeOne B0 x w w') (hB : B0 ≤ w.heap.size) : Below B0 w w' := ⟨h.os, h.tape, h.output, h.size, fun k hk => h.block k (by omega) (Or.inl hk)⟩
theorem two_one {B0 : Nat} {x : Int} {w w' : World} {v v' : Value} {n m : Nat} {xs news : List Value} (ho : w.ownsRow B0 3 1 v n xs) (ho' : w'.ownsRow B0 3 1 v' (n + m) (xs ++ news)) (h2 : TwoWays w v n m v' w')
    (hz : (∃ g, v = .slice (some ⟨g, 0, none⟩) 0 0) ∨ (0 < n + m ∧ (n + m = 1 → xs ++ news = [.int .i64 x]))) : LeOne B0 x w w' := by
  rcases h2 with ⟨g, cap, e1, e2, hg⟩ | ⟨-, hg⟩
  · subst e1 e2
    refine ⟨hg.os, hg.tape, hg.output, hg.size, fun k hk h => ?_⟩
    by_cases hkg : k = g
    · subst hkg
      have hb := (ho.lt k rfl).1
      rcases h with h | h
      · omega
      · rcases ho.2 with ⟨e, -⟩ | ⟨g1, cap1, cur, e, -, hgw, hnc, -, hcs, ht⟩
        · cases e
        · injection e with e3 _ e4
          injection e3 with e3
          injection e3 with e3 _
          subst e3 e4
          rw [hgw] at h
          injection h with h
          injection h with h5 _ _
          subst h5
          have hcap : cap = 1 := by simpa using hcs.symm
          subst hcap
          rcases ho'.2 with ⟨e, -⟩ | ⟨g2, cap2, cur2, e, -, hgw2, hnc2, -, hcs2, ht2⟩
          · cases e
          · injection e with e3 _ e4
            injection e3 with e3
            injection e3 with e3 _
            subst e3 e4
            rcases hz with ⟨g', hv⟩ | ⟨h6, h1⟩
            · injection hv with _ _ hv
              cases hv
            · have h7 : n + m = 1 := by omega
              rw [h1 h7, h7] at ht2
              rw [hgw2, hgw]
              have : cur2 = #[.int .i64 x] := by
                have h8 : cur2.toList = [.int .i64 x] := by
                  rw [← ht2, List.take_of_length_le (by simp [hcs2])]
                exact Array.toList_inj.1 h8
              rw [this]
    · exact hg.block k hk (fun e => hkg (by injection e))
  · exact leOne_grow _ _ hg
/-- a block of one cell that was just made -/
def FactOn.one (B0 : Nat) (x : Int) : FactOn (LeOne B0 x) :=
  ⟨fun u w => ∃ m, u = .slice (some ⟨m, 0, none⟩) 1 1 ∧ Blk w m 3 #[.int .i64 x], fun _ _ _ hk ⟨m, h1, h2⟩ => ⟨m, h1, (hk.block m h2.lt (Or.inr h2)).trans h2⟩⟩
/-- what the chain has noted -/
def insW (B0 : Nat) (O : List Int) (k : Nat) (x : Int) : List Value → World → Prop
  | [], w => True
  | [v], w => w.ownsRow B0 3 1 v 0 [] ∧ ∃ g, v = .slice (some ⟨g, 0, none⟩) 0 0
  | [_, v], w => w.ownsRow B0 3 1 v k ((O.take k).map i64v)
  | [_, _, v], w => w.ownsRow B0 3 1 v (k + 1) ((O.take k ++ [x]).map i64v)
  | [_, _, _, v], w => w.ownsRow B0 3 1 v (O.length + 1) ((O.take k ++ [x] ++ O.drop k).map i64v)
  | _, _ => False
theorem insW.grow {B0 k : Nat} {O : List Int} {x : Int} : ∀ (vals : List Value) (w w2 : World), Grow w w2 → insW B0 O k x vals w → insW B0 O k x vals w2
  | [], _, _, _, _ => trivial
  | [_], _, _, hg, h => ⟨own_below h.1 hg, h.2⟩
  | [_, _], _, _, hg, h => own_below h hg
  | [_, _, _], _, _, hg, h => own_below h hg
  | [_, _, _, _], _, _, hg, h => own_below h hg
  | _ :: _ :: _ :: _ :: _ :: _, _, _, _, h => h
theorem wp_append_two {P : Program} (w : World) {o : Oper} {a : Act} {K : Act → World → Prop} {Q : Exit → Act → World → Prop} (s x : Operand) {t : TypeId}
    (ho : o.op = .call { callee := .builtin .append, args := #[s, x], argTypes := #[t, t] })
    {base e size bytes : Nat} {z : Value} (T : AppTy P t e z size bytes) {v : Value} {n : Nat} {xs : List Value} (hs : a.eval s = v) (hown : w.ownsRow base e size v n xs)
    {B : Nat} {A : Option Addr} {m c : Nat} {news : List Value} (hx : a.eval x = .slice A m c) (hr : ReadsAt w B size A m news) (h1 : ∀ u ∈ news, u.oneCell' = true)
    (h63 : n + m ≤ maxLen) (hbytes : (n + m) * bytes ≤ 140737488355328) (hbase : base ≤ w.heap.size)
    (h : ∀ v' w', w'.ownsRow base e size v' (n + m) (xs ++ news) → TwoWays w v n m v' w' → K (a.put o.dst v') w') : o.wp P a w K Q := by
  obtain ⟨v', w', hrun, h2, h3⟩ := run_append_two (P := P) w (ty := o.type) T hown (c := c) hr h1 h63 hbytes hbase
  unfold Oper.wp execOp
  simp only [ho, resolve, invoke, builtin, Sem.run_bind, Sem.run_pure, Result.andThen_ok, List.map_toArray, List.map_cons, List.map_nil, hs, hx, hrun]
  exact h v' w' h2 h3
theorem i64_one (l : List Int) : ∀ u ∈ l.map i64v, u.oneCell' = true := fun u hu => by
  obtain ⟨y, -, rfl⟩ := List.mem_map.1 hu
  rfl
theorem one_reads {w : World} {m : Nat} {x : Int} (h : Blk w m 3 #[.int .i64 x]) : ReadsAt w w.heap.size 1 (some ⟨m, 0, none⟩) 1 [.int .i64 x] :=
  ⟨rfl, fun _ => ⟨m, 0, rfl, h.lt, fun j u hu => by
    rw [h.cell, Nat.zero_add]
    simpa using hu⟩⟩
theorem ins_len : ∀ (O : List Int) (x : Int), (ins O x).length ≤ O.length + 1
  | [], x => by simp [ins]
  | y :: O, x => by
    unfold ins
    split
    · have := ins_len O x
      simp only [List.length_cons]
      omega
    · split <;> simp
theorem insAll_len : ∀ (l O : List Int), (insAll O l).length ≤ O.length + l.length
  | [], O => by simp [insAll]
  | x :: l, O => by
    have := insAll_len l (ins O x)
    have := ins_len O x
    show (insAll (ins O x) l).length ≤ _
    simp only [List.length_cons]
    omega
theorem joinTo_len : ∀ (ls : List (List Int)) (O : List Int), (ls.foldl insAll O).length ≤ O.length + ls.flatten.length
  | [], O => by simp
  | l :: ls, O => by
    have := joinTo_len ls (insAll O l)
    have := insAll_len l O
    simp only [List.foldl_cons, List.flatten_cons, List.length_append]
    omega
/-- where a number is put -/
theorem ins_at : ∀ {O : List Int} {k : Nat} {x : Int}, k ≤ O.length → (∀ j y, j < k → O[j]? = some y → y < x) → (∀ y, O[k]? = some y → x < y) → ins O x = O.take k ++ x :: O.drop k
  | [], k, x, hk, _, _ => by
    obtain rfl : k = 0 := by simpa using hk
    rfl
  | y :: O, 0, x, _, _, h2 => by
    have := h2 y rfl
    unfold ins
    rw [if_neg (by omega), if_neg (by omega)]
    rfl
  | y :: O, k + 1, x, hk, h1, h2 => by
    have := h1 0 y (by omega) rfl
    unfold ins
    rw [if_pos this, ins_at (k := k) (by simpa using hk) (fun j z hj hz => h1 (j + 1) z (by omega) (by simpa using hz)) (fun z hz => h2 z (by simpa using hz))]
    rfl
theorem ins_there : ∀ {O : List Int} {k : Nat} {x : Int}, (∀ j y, j < k → O[j]? = some y → y < x) → O[k]? = some x → ins O x = O
  | [], k, x, _, h => by simp at h
  | y :: O, 0, x, _, h => by
    obtain rfl : y = x := by simpa using h
    unfold ins
    rw [if_neg (by omega), if_pos rfl]
  | y :: O, k + 1, x, h1, h => by
    have := h1 0 y (by omega) rfl
    unfold ins
    rw [if_pos this, ins_there (k := k) (fun j z hj hz => h1 (j + 1) z (by omega) (by simpa using hz)) (by simpa using h)]
end Go.Proofs.Ytamdejidkgnaeaa
