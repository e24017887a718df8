/-
  The trees that mudlarklaw20's statements are about: what they are, how great, what the rest of their cursors is; where they lie in memory; how they are read from an argument.
-/
import Derived.Test.YthjnggclemhgkaaBaseB
import Derived.Test.YthjnggclemhgkaaCur
import Derived.Test.YthjnggclemhgkaaPick
namespace Go.Proofs.Ythjnggclemhgkaa
open Go.RowKit CurM
set_option linter.unusedVariables false

inductive TreeM where
  | mk (what : Int) (row skip : List Int) (kids : List TreeM)
instance : Inhabited TreeM := ⟨.mk 0 [] [] []⟩
def TreeM.what : TreeM → Int
  | .mk x _ _ _ => x
def TreeM.row : TreeM → List Int
  | .mk _ x _ _ => x
def TreeM.skip : TreeM → List Int
  | .mk _ _ x _ => x
def TreeM.kids : TreeM → List TreeM
  | .mk _ _ _ x => x
/-- what size tells -/
def sizeN : Nat → List TreeM → Nat
  | 0, l => l.length * 600
  | d + 1, l => l.foldl (fun n t => if n ≤ 600 then n + t.row.length + t.skip.length + sizeN d t.kids else n) l.length
/-- how great a tree is -/
def wt : Nat → TreeM → Nat
  | 0, _ => 600
  | d + 1, t => 1 + t.row.length + t.skip.length + (t.kids.map (wt d)).sum
theorem sizeTo_over {d : Nat} : ∀ (l : List TreeM) (n : Nat), 600 < n → l.foldl (fun n t => if n ≤ 600 then n + t.row.length + t.skip.length + sizeN d t.kids else n) n = n
  | [], _, _ => rfl
  | t :: l, n, h => by
    rw [List.foldl_cons, if_neg (by omega)]
    exact sizeTo_over l n h
theorem size_wt : ∀ (d : Nat) (l : List TreeM), sizeN d l ≤ 600 → sizeN d l = (l.map (wt d)).sum
  | 0, l, _ => by
    have h : ∀ l : List TreeM, (l.map (wt 0)).sum = l.length * 600 := fun l => by
      induction l with
      | nil => rfl
      | cons t l ih =>
        rw [List.map_cons, List.sum_cons, ih, List.length_cons]
        simp only [wt]
        omega
    exact (h l).symm
  | d + 1, l, hs => by
    have to : ∀ (l : List TreeM) (n : Nat), l.foldl (fun n t => if n ≤ 600 then n + t.row.length + t.skip.length + sizeN d t.kids else n) n ≤ 600 → l.foldl (fun n t => if n ≤ 600 then n + t.row.length + t.skip.length + sizeN d t.kids else n) n + l.length = n + (l.map (wt (d + 1))).sum := by
      intro l
      induction l with
      | nil => intro n _; simp
      | cons t l ih =>
        intro n h
        rw [List.foldl_cons] at h ⊢
        have hn : n ≤ 600 := by
          rcases Nat.lt_or_ge 600 n with h1 | h1
          · rw [if_neg (by omega), sizeTo_over l n h1] at h
            omega
          · exact h1
        rw [if_pos hn] at h ⊢
        have h2 := ih _ h
        have h3 : n + t.row.length + t.skip.length + sizeN d t.kids ≤ 600 := by
          rcases Nat.lt_or_ge 600 (n + t.row.length + t.skip.length + sizeN d t.kids) with h1 | h1
          · rw [sizeTo_over l _ h1] at h
            omega
          · exact h1
        have h4 := size_wt d t.kids (by omega)
        rw [List.map_cons, List.sum_cons, List.length_cons]
        have e : wt (d + 1) t = 1 + t.row.length + t.skip.length + sizeN d t.kids := by rw [h4]; rfl
        rw [e]
        omega
    have h1 := to l l.length hs
    show l.foldl _ l.length = _
    omega
theorem wt_pos : ∀ (d : Nat) (t : TreeM), 1 ≤ wt d t
  | 0, _ => by simp [wt]
  | d + 1, t => by simp only [wt]; omega
theorem sum_mem {l : List Nat} {x : Nat} (h : x ∈ l) : x ≤ l.sum := by
  induction l with
  | nil => simp at h
  | cons y l ih =>
    rw [List.sum_cons]
    rcases List.mem_cons.1 h with rfl | h
    · omega
    · have := ih h
      omega
theorem wt_kid {d : Nat} {t k : TreeM} (h : k ∈ t.kids) : wt d k + 1 + t.row.length + t.skip.length ≤ wt (d + 1) t := by
  have := sum_mem (List.mem_map.2 ⟨k, h, rfl⟩ : wt d k ∈ t.kids.map (wt d))
  simp only [wt]
  omega
theorem sum_len : ∀ (d : Nat) (l : List TreeM), l.length ≤ (l.map (wt d)).sum
  | d, [] => by simp
  | d, t :: l => by
    have h1 := sum_len d l
    have h2 := wt_pos d t
    rw [List.map_cons, List.sum_cons, List.length_cons]
    omega
theorem wt_kids (d : Nat) (t : TreeM) : t.kids.length + 1 + t.row.length + t.skip.length ≤ wt (d + 1) t := by
  have := sum_len d t.kids
  simp only [wt]
  omega
/-- the first two numbers -/
def pairA (l : List Int) : Int := (l ++ [0, 0]).getD 0 0
def pairB (l : List Int) : Int := min ((l ++ [0, 0]).getD 1 0) (wrap64 (pairA l + 300))
/-- the rest of a tree's cursor, where no seek was yet -/
def restTo (what : Int) (row : List Int) (rs : List (List Int)) : List Int :=
  if pickI what 7 = 1 then spanL (pairA row) (pairB row) else if pickI what 7 = 3 then meetL rs else if pickI what 7 = 4 then joinL rs
  else if pickI what 7 = 5 then (match rs with
    | a :: b :: _ => lessL a b
    | _ => rowL row)
  else if pickI what 7 = 6 then [] else rowL row
/-- the rest of a tree's cursor -/
def restOf : Nat → TreeM → List Int
  | 0, _ => []
  | d + 1, t => t.skip.foldl (fun r n => seek n r) (restTo t.what t.row (t.kids.map (restOf d)))
theorem seeks_len : ∀ (s l : List Int), (s.foldl (fun r n => seek n r) l).length ≤ l.length
  | [], _ => Nat.le_refl _
  | x :: s, l => by
    rw [List.foldl_cons]
    exact Nat.le_trans (seeks_len s _) (seek_len x l)
theorem pair_span (l : List Int) (h : ∀ x ∈ l, W64 x) : W64 (pairA l) ∧ W64 (pairB l) ∧ pairB l - pairA l ≤ 300 := by
  have hin : ∀ i, W64 ((l ++ [0, 0]).getD i 0) := fun i => by
    rw [List.getD_eq_getElem?_getD]
    cases hx : (l ++ [0, 0])[i]? with
    | none => simp [W64]
    | some x =>
      have hm := List.mem_of_getElem? hx
      rcases List.mem_append.1 hm with h1 | h1
      · exact h x h1
      · have : x = 0 := by simpa using h1
        rw [this]
        simp [W64]
  have h0 := hin 0
  have h1 := hin 1
  unfold W64 at h0 h1
  unfold pairB pairA
  refine ⟨h0, ?_, ?_⟩
  · unfold W64 wrap64
    omega
  · unfold wrap64
    omega
theorem span_len (a b : Int) : (spanL a b).length = (b - a).toNat := by simp [spanL]
theorem joinTo_len' : ∀ (ls : List (List Int)) (O : List Int), (ls.foldl insAll O).length ≤ O.length + (ls.map List.length).sum
  | [], O => by simp
  | l :: ls, O => by
    have ins_le : ∀ (O : List Int) (x : Int), (ins O x).length ≤ O.length + 1 := fun O x => by
      induction O with
      | nil => simp [ins]
      | cons y O ih =>
        unfold ins
        repeat' split
        all_goals simp only [List.length_cons]; omega
    have all_le : ∀ (l O : List Int), (insAll O l).length ≤ O.length + l.length := fun l => by
      unfold insAll
      induction l with
      | nil => intro O; simp
      | cons x l ih =>
        intro O
        rw [List.foldl_cons]
        have h1 := ih (ins O x)
        have h2 := ins_le O x
        simp only [List.length_cons]
        omega
    rw [List.foldl_cons, List.map_cons, List.sum_cons]
    have h1 := joinTo_len' ls (insAll O l)
    have h2 := all_le l O
    omega
/-- all its numbers fit into 64 bits -/
def WideT : Nat → TreeM → Prop
  | 0, _ => True
  | d + 1, t => W64 t.what ∧ (∀ x ∈ t.row, W64 x) ∧ (∀ x ∈ t.skip, W64 x) ∧ ∀ k ∈ t.kids, WideT d k
theorem rests_sum {d : Nat} : ∀ (l : List TreeM), (∀ t ∈ l, (restOf d t).length ≤ 300 * wt d t) → ((l.map (restOf d)).map List.length).sum ≤ 300 * (l.map (wt d)).sum
  | [], _ => by simp
  | t :: l, h => by
    have h1 := h t (by simp)
    have h2 := rests_sum l fun t ht => h t (by simp [ht])
    simp only [List.map_cons, List.sum_cons]
    omega
theorem restTo_len (what : Int) (row : List Int) (rs : List (List Int)) (hrow : ∀ x ∈ row, W64 x) : (restTo what row rs).length ≤ 300 + row.length + (rs.map List.length).sum := by
  have h1 := row_len row
  have first : ∀ l ∈ rs, l.length ≤ (rs.map List.length).sum := fun l h => sum_mem (List.mem_map.2 ⟨l, h, rfl⟩)
  unfold restTo
  split
  · rw [span_len]
    have := (pair_span row hrow).2.2
    omega
  split
  · cases rs with
    | nil => simp [meetL]
    | cons l rs =>
      have h2 := first l (by simp)
      have h3 : (meetL (l :: rs)).length ≤ l.length := by unfold meetL; exact List.length_filter_le _ _
      omega
  split
  · have h2 := joinTo_len' rs []
    simp only [List.length_nil] at h2
    unfold joinL
    omega
  split
  · split
    · rename_i a b r
      have h2 := first a (by simp)
      have h3 : (lessL a b).length ≤ a.length := by unfold lessL; exact List.length_filter_le _ _
      omega
    · omega
  split
  · simp
  · omega
theorem rest_len : ∀ (d : Nat) (t : TreeM), WideT d t → (restOf d t).length ≤ 300 * wt d t
  | 0, t, _ => by simp [restOf]
  | d + 1, t, h => by
    have hk := rests_sum (d := d) t.kids fun k hm => rest_len d k (h.2.2.2 k hm)
    have hw : wt (d + 1) t = 1 + t.row.length + t.skip.length + (t.kids.map (wt d)).sum := rfl
    have h1 := restTo_len t.what t.row (t.kids.map (restOf d)) h.2.1
    have h2 := seeks_len t.skip (restTo t.what t.row (t.kids.map (restOf d)))
    have h3 : restOf (d + 1) t = t.skip.foldl (fun r n => seek n r) (restTo t.what t.row (t.kids.map (restOf d))) := rfl
    rw [h3]
    omega

/-- four cells are a tree; of what lies deeper than d nothing is said -/
def TreeCells : Nat → World → Nat → List Value → TreeM → Prop
  | 0 => fun _ _ _ _ => True
  | d + 1 => fun w B cs t => ∃ A1 n1 c1 A2 n2 c2 A3 n3 c3, cs = [.int .i64 t.what, .slice A1 n1 c1, .slice A2 n2 c2, .slice A3 n3 c3] ∧ n1 ≤ 17592186044415 ∧ n2 ≤ 17592186044415 ∧ n3 ≤ 1759218604441 ∧
      IntsAt w B A1 n1 t.row ∧ IntsAt w B A2 n2 t.skip ∧ SliceBy w B 4 A3 n3 (TreeCells d w B) t.kids ∧ W64 t.what ∧ (∀ x ∈ t.row, W64 x) ∧ ∀ x ∈ t.skip, W64 x
def TreesAt (d : Nat) (w : World) (B : Nat) (A : Option Addr) (n : Nat) (l : List TreeM) : Prop := SliceBy w B 4 A n (TreeCells d w B) l
section
variable {w w' : World} {B B' n : Nat} {A : Option Addr} {l : List TreeM}
theorem TreeCells.keep : ∀ {d : Nat} {cs : List Value} {t : TreeM}, TreeCells d w B cs t → (∀ p : Addr, p.block < B → w'.cell? p = w.cell? p) → TreeCells d w' B cs t
  | 0, _, _, _, _ => trivial
  | d + 1, cs, t, ⟨A1, n1, c1, A2, n2, c2, A3, n3, c3, h0, h1, h2, h3, h4, h5, h6, h7⟩, hk => ⟨A1, n1, c1, A2, n2, c2, A3, n3, c3, h0, h1, h2, h3, h4.keep hk, h5.keep hk, SliceBy.keep h6 hk fun _ _ h => TreeCells.keep h hk, h7⟩
theorem SliceBy.more {s : Nat} {α : Type} {R R' : List Value → α → Prop} {l : List α} (h : SliceBy w B s A n R l) (hB : B ≤ B') (hR : ∀ cs a, R cs a → R' cs a) : SliceBy w B' s A n R' l :=
  ⟨h.1, fun hn => by
    obtain ⟨b, off, e, hb, hc⟩ := h.2 hn
    exact ⟨b, off, e, by omega, fun j a hj => by
      obtain ⟨cs, h1, h2, h3⟩ := hc j a hj
      exact ⟨cs, h1, hR _ _ h2, h3⟩⟩⟩
theorem TreeCells.more : ∀ {d : Nat} {cs : List Value} {t : TreeM}, TreeCells d w B cs t → B ≤ B' → TreeCells d w B' cs t
  | 0, _, _, _, _ => trivial
  | d + 1, cs, t, ⟨A1, n1, c1, A2, n2, c2, A3, n3, c3, h0, h1, h2, h3, h4, h5, h6, h7⟩, hB => ⟨A1, n1, c1, A2, n2, c2, A3, n3, c3, h0, h1, h2, h3, h4.more hB, h5.more hB, SliceBy.more h6 hB fun _ _ h => TreeCells.more h hB, h7⟩
theorem TreeCells.below {d : Nat} {cs : List Value} {t : TreeM} (h : TreeCells d w B cs t) (hb : Below B w w') : TreeCells d w' B cs t := h.keep fun _ hp => hb.cell hp
theorem TreesAt.len {d : Nat} (h : TreesAt d w B A n l) : l.length = n := h.1
theorem TreesAt.below {d : Nat} (h : TreesAt d w B A n l) (hb : Below B w w') : TreesAt d w' B A n l := SliceBy.keep h (fun _ hp => hb.cell hp) fun _ _ h => TreeCells.below h hb
theorem TreesAt.more {d : Nat} (h : TreesAt d w B A n l) (hB : B ≤ B') : TreesAt d w B' A n l := SliceBy.more h hB fun _ _ h => TreeCells.more h hB
theorem SliceBy.all {s : Nat} {α : Type} {R : List Value → α → Prop} {l : List α} (h : SliceBy w B s A n R l) (a : α) (ha : a ∈ l) : ∃ cs, R cs a := by
  obtain ⟨j, hj⟩ := List.getElem?_of_mem ha
  obtain ⟨b, off, _, _, hc⟩ := h.2 (by have := (List.getElem?_eq_some_iff.1 hj).1; have := h.1; omega)
  obtain ⟨cs, _, h2, _⟩ := hc j a hj
  exact ⟨cs, h2⟩
theorem TreeCells.wide : ∀ {d : Nat} {cs : List Value} {t : TreeM}, TreeCells d w B cs t → WideT d t
  | 0, _, _, _ => trivial
  | d + 1, cs, t, ⟨A1, n1, c1, A2, n2, c2, A3, n3, c3, h0, h1, h2, h3, h4, h5, h6, h7, h8, h9⟩ => ⟨h7, h8, h9, fun k hk => by
    obtain ⟨cs, h⟩ := SliceBy.all h6 k hk
    exact TreeCells.wide h⟩
/-- a tree at its place -/
theorem TreesAt.at_ {d : Nat} (h : TreesAt (d + 1) w B A n l) {k : Nat} {t : TreeM} (hk : l[k]? = some t) : ∃ b off A1 n1 c1 A2 n2 c2 A3 n3 c3, A = some ⟨b, off, none⟩ ∧ b < B ∧
    w.cell? ⟨b, off + k * 4, none⟩ = some (.int .i64 t.what) ∧ w.cell? ⟨b, off + k * 4 + 1, none⟩ = some (.slice A1 n1 c1) ∧ w.cell? ⟨b, off + k * 4 + 2, none⟩ = some (.slice A2 n2 c2) ∧ w.cell? ⟨b, off + k * 4 + 3, none⟩ = some (.slice A3 n3 c3) ∧
    n1 ≤ 17592186044415 ∧ n2 ≤ 17592186044415 ∧ n3 ≤ 1759218604441 ∧ IntsAt w B A1 n1 t.row ∧ IntsAt w B A2 n2 t.skip ∧ TreesAt d w B A3 n3 t.kids ∧ TreeCells (d + 1) w B [.int .i64 t.what, .slice A1 n1 c1, .slice A2 n2 c2, .slice A3 n3 c3] t := by
  have hn : 0 < n := by
    have h1 := (List.getElem?_eq_some_iff.1 hk).1
    have h2 := h.1
    omega
  obtain ⟨b, off, e, hb, hc⟩ := h.2 hn
  obtain ⟨cs, hl, hT, hcs⟩ := hc k t hk
  obtain ⟨A1, n1, c1, A2, n2, c2, A3, n3, c3, rfl, h1, h2, h3, h4, h5, h6, h7⟩ := id hT
  exact ⟨b, off, A1, n1, c1, A2, n2, c2, A3, n3, c3, e, hb, hcs 0 _ rfl, hcs 1 _ rfl, hcs 2 _ rfl, hcs 3 _ rfl, h1, h2, h3, h4, h5, h6, hT⟩
end
section
open Go.ChangeShapes Go.WideShapes
variable {H : Type} {enc : TypeId × Value → H} {w : World}
theorem readsBy_Tree : ∀ (d : Nat), ReadsBy enc Try.prog w 25 (TreeCells d w w.heap.size)
  | 0 => fun m cs y h hz => ⟨default, trivial⟩
  | d + 1 => fun m cs y h hz => by
    obtain ⟨hl, hf⟩ := open_fields_of (show fieldsOf Try.prog 25 = some [(3, 0), (22, 1), (22, 2), (23, 3)] by kernel_rfl) h hz
    rw [show Try.prog.cellsOf 25 = 4 by kernel_rfl] at hl
    obtain ⟨x0, x1, x2, x3, rfl⟩ : ∃ a b c d, cs = [a, b, c, d] := by
      match cs, hl with
      | [a, b, c, d], _ => exact ⟨a, b, c, d, rfl⟩
    have ci : Try.prog.cellsOf 3 = 1 := by kernel_rfl
    have cj : Try.prog.cellsOf 22 = 1 := by kernel_rfl
    obtain ⟨m0, y0, h0, z0⟩ := hf 0 _ _ rfl
    obtain ⟨m1, y1, h1, z1⟩ := hf 1 _ _ rfl
    obtain ⟨m2, y2, h2, z2⟩ := hf 2 _ _ rfl
    obtain ⟨m3, y3, h3, z3⟩ := hf 3 _ _ rfl
    rw [ci] at h0
    rw [cj] at h1 h2
    rw [show Try.prog.cellsOf 23 = 1 by kernel_rfl] at h3
    obtain ⟨a0, e0, r0⟩ := readsBy_i64 Try.underlying3 _ _ _ h0 z0
    obtain ⟨l1, A1, n1, c1, e1, p1, _, q1, s1⟩ := readsBy_slice Try.underlying22 1 8 (by kernel_rfl) (by kernel_rfl) (by omega) (readsBy_i64 Try.underlying3) _ _ _ h1 z1
    obtain ⟨l2, A2, n2, c2, e2, p2, _, q2, s2⟩ := readsBy_slice Try.underlying22 1 8 (by kernel_rfl) (by kernel_rfl) (by omega) (readsBy_i64 Try.underlying3) _ _ _ h2 z2
    obtain ⟨l3, A3, n3, c3, e3, p3, _, q3, s3⟩ := readsBy_slice Try.underlying23 4 80 (by kernel_rfl) (by kernel_rfl) (by omega) (readsBy_Tree d) _ _ _ h3 z3
    obtain ⟨i1, w1⟩ := intsAt_of s1
    obtain ⟨i2, w2⟩ := intsAt_of s2
    have g0 : x0 = .int .i64 a0 := by simpa using e0
    have g1 : x1 = .slice A1 n1 c1 := by simpa using e1
    have g2 : x2 = .slice A2 n2 c2 := by simpa using e2
    have g3 : x3 = .slice A3 n3 c3 := by simpa using e3
    subst g0 g1 g2 g3
    exact ⟨.mk a0 l1 l2 l3, A1, n1, c1, A2, n2, c2, A3, n3, c3, rfl, by omega, by omega, by omega, i1, i2, s3, r0, w1, w2⟩
theorem open_tree {v : Value} {d : DataW H} {p : List MemPlace} {fs : Array Field} (ht : Try.prog.underlying 25 = some (.struct fs)) (h : DataW.Trod enc Try.prog w 0 (fun _ => true) true 25 v d p) (hz : Within Try.prog 25 d) {r : Reach} {base : Nat} (hv : Value.okWide Try.prog w r base 25 v) :
    ∃ (t : TreeM) (cs : List Value), v = .agg cs.toArray ∧ TreeCells 6 w w.heap.size cs t := by
  obtain ⟨cs, rfl, -⟩ := Go.WideShapes.okWide_struct ht hv
  obtain ⟨t, ht⟩ := open_by (readsBy_Tree 6) h hz
  exact ⟨t, cs.toList, by simp, by simpa [Value.cells] using ht⟩

/-- a move: what, of which number -/
def MovesAt (w : World) (B : Nat) (A : Option Addr) (n : Nat) (l : List (Int × Int)) : Prop := SliceBy w B 2 A n (fun cs (m : Int × Int) => cs = [.int .i64 m.1, .int .i64 m.2] ∧ W64 m.1 ∧ W64 m.2) l
theorem MovesAt.below {w w' : World} {B n : Nat} {A : Option Addr} {l : List (Int × Int)} (h : MovesAt w B A n l) (hb : Below B w w') : MovesAt w' B A n l := SliceBy.keep h (fun _ hp => hb.cell hp) fun _ _ h => h
theorem MovesAt.at_ {w : World} {B n : Nat} {A : Option Addr} {l : List (Int × Int)} (h : MovesAt w B A n l) {k : Nat} {m : Int × Int} (hk : l[k]? = some m) : ∃ b off, A = some ⟨b, off, none⟩ ∧ b < B ∧ w.cell? ⟨b, off + k * 2, none⟩ = some (.int .i64 m.1) ∧ w.cell? ⟨b, off + k * 2 + 1, none⟩ = some (.int .i64 m.2) ∧ W64 m.1 ∧ W64 m.2 := by
  obtain ⟨b, off, e, hb, hc⟩ := h.2 (by have h1 := (List.getElem?_eq_some_iff.1 hk).1; have h2 := h.1; omega)
  obtain ⟨cs, _, ⟨rfl, h1, h2⟩, hcs⟩ := hc k m hk
  exact ⟨b, off, e, hb, hcs 0 _ rfl, hcs 1 _ rfl, h1, h2⟩
theorem readsBy_Move : ReadsBy enc Try.prog w 36 (fun cs (m : Int × Int) => cs = [.int .i64 m.1, .int .i64 m.2] ∧ W64 m.1 ∧ W64 m.2) := fun m cs y h hz => by
  obtain ⟨hl, hf⟩ := open_fields_of (show fieldsOf Try.prog 36 = some [(3, 0), (3, 1)] by kernel_rfl) h hz
  rw [show Try.prog.cellsOf 36 = 2 by kernel_rfl] at hl
  obtain ⟨x0, x1, rfl⟩ := list2 hl
  have ci : Try.prog.cellsOf 3 = 1 := by kernel_rfl
  obtain ⟨m0, y0, h0, z0⟩ := hf 0 _ _ rfl
  obtain ⟨m1, y1, h1, z1⟩ := hf 1 _ _ rfl
  rw [ci] at h0 h1
  obtain ⟨a0, e0, r0⟩ := readsBy_i64 Try.underlying3 _ _ _ h0 z0
  obtain ⟨a1, e1, r1⟩ := readsBy_i64 Try.underlying3 _ _ _ h1 z1
  have g0 : x0 = .int .i64 a0 := by simpa using e0
  have g1 : x1 = .int .i64 a1 := by simpa using e1
  subst g0 g1
  exact ⟨(a0, a1), rfl, r0, r1⟩
theorem open_moves {A : Option Addr} {n c : Nat} {d : DataW H} {p : List MemPlace}
    (h : DataW.Trod enc Try.prog w 0 (fun _ => true) true 26 (.slice A n c) d p) (hz : Within Try.prog 26 d) : ∃ l : List (Int × Int), n ≤ c ∧ c ≤ maxLen ∧ MovesAt w w.heap.size A n l ∧ n ≤ 8796093022207 := by
  obtain ⟨l, A', n', c', e1, h1, h2, h4, h3⟩ := open_by (readsBy_slice Try.underlying26 2 16 (by kernel_rfl) (by kernel_rfl) (by omega) readsBy_Move) h hz
  simp only [Value.cells, List.cons.injEq, Value.slice.injEq, and_true] at e1
  obtain ⟨rfl, rfl, rfl⟩ := e1
  exact ⟨l, h1, h2, h3, by omega⟩
end
end Go.Proofs.Ythjnggclemhgkaa
