/-
  The document's Make: postings that are built, a gram put among them (in a region that draws its order), a place put behind a gram's.
-/
import Derived.Test.YtamdejidkgnaeaaGramIns
import Derived.Test.YtamdejidkgnaeaaCurJoin
import Derived.Test.YtamdejidkgnaeaaNearFind
namespace Go.Proofs.Ytamdejidkgnaeaa
open Go.RowKit GramM
set_option linter.unusedVariables false
/-- the cells of postings -/
def poC (F : Gr → Value) (Q : List Gr) : List Value := Q.flatMap fun g : Gr => [.string (grS g), F g]
theorem poC_snoc (F : Gr → Value) (Q : List Gr) (g : Gr) : poC F (Q ++ [g]) = poC F Q ++ [.string (grS g), F g] := by simp [poC]
def updG {α : Type} (f : Gr → α) (g : Gr) (v : α) : Gr → α := fun h => if h = g then v else f h
theorem updG_self {α : Type} (f : Gr → α) (g : Gr) (v : α) : updG f g v g = v := by simp [updG]
theorem updG_ne {α : Type} (f : Gr → α) {g h : Gr} (v : α) (hh : h ≠ g) : updG f g v h = f h := by simp [updG, hh]
theorem poC_upd {F : Gr → Value} {g : Gr} {v : Value} : ∀ {Q : List Gr}, g ∉ Q → poC (updG F g v) Q = poC F Q
  | [], _ => rfl
  | h :: Q, hg => by
    have h1 : h ≠ g := fun e => hg (by rw [e]; simp)
    show [Value.string (grS h), updG F g v h] ++ poC (updG F g v) Q = [Value.string (grS h), F h] ++ poC F Q
    rw [updG_ne F v h1, poC_upd (Q := Q) fun e => hg (List.mem_cons_of_mem _ e)]
theorem poC_set {F : Gr → Value} {g : Gr} {v : Value} : ∀ {Q : List Gr} {k : Nat}, Q.Nodup → Q[k]? = some g → (poC F Q).set (k * 2 + 1) v = poC (updG F g v) Q
  | [], k, _, h => by simp at h
  | h :: Q, 0, hn, e => by
    injection e with e
    subst e
    have h1 := (List.nodup_cons.1 hn).1
    show [Value.string (grS h), v] ++ poC F Q = [Value.string (grS h), updG F h v h] ++ poC (updG F h v) Q
    rw [updG_self, poC_upd h1]
  | h :: Q, k + 1, hn, e => by
    have hk : Q[k]? = some g := by simpa using e
    obtain ⟨h1, h2⟩ := List.nodup_cons.1 hn
    have h3 : h ≠ g := fun e2 => h1 (by rw [e2]; exact List.mem_of_getElem? hk)
    rw [show (k + 1) * 2 + 1 = k * 2 + 1 + 1 + 1 by omega]
    show Value.string (grS h) :: F h :: (poC F Q).set (k * 2 + 1) v = [Value.string (grS h), updG F g v h] ++ poC (updG F g v) Q
    rw [updG_ne F v h3, poC_set h2 hk]
    rfl
theorem poC_app (F : Gr → Value) (L M : List Gr) : poC F (L ++ M) = poC F L ++ poC F M := by simp [poC]
theorem poC_len (F : Gr → Value) (Q : List Gr) : (poC F Q).length = Q.length * 2 := by
  induction Q with
  | nil => rfl
  | cons h t ih =>
    show ([Value.string (grS h), F h] ++ poC F t).length = _
    rw [List.length_append, ih, List.length_cons]
    simp only [List.length_cons, List.length_nil]
    omega
theorem poC_take (F : Gr → Value) : ∀ (Q : List Gr) (k : Nat), (poC F Q).take (k * 2) = poC F (Q.take k)
  | [], k => by simp [poC]
  | h :: Q, 0 => by simp [poC]
  | h :: Q, k + 1 => by
    rw [show (k + 1) * 2 = k * 2 + 1 + 1 by omega]
    show Value.string (grS h) :: F h :: (poC F Q).take (k * 2) = _
    rw [poC_take F Q k]
    rfl
theorem poC_drop (F : Gr → Value) : ∀ (Q : List Gr) (k : Nat), (poC F Q).drop (k * 2) = poC F (Q.drop k)
  | [], k => by simp [poC]
  | h :: Q, 0 => by simp [poC]
  | h :: Q, k + 1 => by
    rw [show (k + 1) * 2 = k * 2 + 1 + 1 by omega]
    show (poC F Q).drop (k * 2) = _
    rw [poC_drop F Q k]
    rfl
theorem poC_one (F : Gr → Value) (Q : List Gr) (hF : ∀ g ∈ Q, (F g).oneCell' = true) : ∀ u ∈ poC F Q, u.oneCell' = true := fun u hu => by
  obtain ⟨g, hg, h⟩ := List.mem_flatMap.1 hu
  simp only [List.mem_cons, List.not_mem_nil, or_false] at h
  rcases h with rfl | rfl
  · rfl
  · exact hF g hg
theorem poC_at {F : Gr → Value} : ∀ {Q : List Gr} {j : Nat} {g : Gr}, Q[j]? = some g → (poC F Q)[j * 2]? = some (.string (grS g)) ∧ (poC F Q)[j * 2 + 1]? = some (F g)
  | [], j, g, h => by simp at h
  | h :: t, 0, g, e => by
    injection e with e
    subst e
    exact ⟨rfl, rfl⟩
  | h :: t, j + 1, g, e => by
    have := poC_at (F := F) (Q := t) (j := j) (g := g) (by simpa using e)
    rw [show (j + 1) * 2 = j * 2 + 2 by omega]
    exact this
theorem own_pre {w : World} {base e size n c k : Nat} {A : Option Addr} {xs : List Value} (h : w.ownsRow base e size (.slice A n c) n xs) (hk : k ≤ n) : w.ownsRow base e size (.slice A k c) k (xs.take (k * size)) := by
  rcases Nat.eq_zero_or_pos n with h0 | h0
  · subst h0
    obtain rfl : k = 0 := by omega
    have hx : xs = [] := List.eq_nil_of_length_eq_zero (by rw [h.1]; simp)
    subst hx
    rw [Nat.zero_mul]
    exact h
  · obtain ⟨g, cap, e, -⟩ := own_slice h h0
    injection e with e1 _ e2
    subst e1 e2
    exact own_prefix h hk
/-- postings that are built: the row, and each one's places -/
structure RP (W : World) (base : Nat) (u : Value) (Q : List Gr) (f : Gr → List Nat) (F : Gr → Value) : Prop where
  row : W.ownsRow base 46 2 u Q.length (poC F Q)
  own : ∀ g ∈ Q, W.ownsRow base 33 2 (F g) (f g).length (plC (f g))
  apart : ∀ g ∈ Q, ∀ h ∈ Q, g ≠ h → ∀ b, (F g).ownBlock = some b → (F h).ownBlock ≠ some b
section
variable {W W1 W' : World} {base : Nat} {u u' : Value} {Q Q' : List Gr} {f f' : Gr → List Nat} {F F' : Gr → Value} {g : Gr} {k : Nat}
theorem RP.grow (h : RP W base u Q f F) (hg : Grow W W') : RP W' base u Q f F := ⟨own_below h.row hg, fun g hm => own_below (h.own g hm) hg, h.apart⟩
theorem RP.nil (W : World) (base : Nat) (f : Gr → List Nat) (F : Gr → Value) : RP W base (.slice none 0 0) [] f F := ⟨World.ownsRow_nil _ _ _ _, fun _ h => by simp at h, fun _ h => by simp at h⟩
theorem RP.congr (h : RP W base u Q f F) (hf : ∀ g ∈ Q, f g = f' g) : RP W base u Q f' F := ⟨h.row, fun g hm => by rw [← hf g hm]; exact h.own g hm, h.apart⟩
theorem RP.one (h : RP W base u Q f F) : ∀ v ∈ poC F Q, v.oneCell' = true := poC_one F Q fun g hg => by
  obtain ⟨A, c, e, -⟩ := own_reads (h.own g hg)
  rw [e]
  rfl
/-- a gram is put where it belongs -/
theorem RP.ins (h : RP W base u Q f F) (hg : g ∉ Q) (hk : Keep (fun j => u.ownBlock = some j) W W')
    (hrow : W'.ownsRow base 46 2 u' (Q.length + 1) (poC F (Q.take k) ++ [.string (grS g), .slice none 0 0] ++ poC F (Q.drop k))) :
    RP W' base u' (Q.take k ++ g :: Q.drop k) (updG f g []) (updG F g (.slice none 0 0)) := by
  have hmem : ∀ h ∈ Q.take k ++ g :: Q.drop k, h = g ∨ (h ≠ g ∧ h ∈ Q) := fun x hx => by
    by_cases e : x = g
    · exact Or.inl e
    · refine Or.inr ⟨e, ?_⟩
      rcases List.mem_append.1 hx with h1 | h1
      · exact List.mem_of_mem_take h1
      · rcases List.mem_cons.1 h1 with h2 | h2
        · exact absurd h2 e
        · exact List.mem_of_mem_drop h2
  have hS : ∀ x ∈ Q, W'.ownsRow base 33 2 (F x) (f x).length (plC (f x)) := fun x hx => hk.own (h.own x hx) fun b hb hub => by
    exact absurd (own_types h.row (h.own x hx) hub hb) (by decide)
  refine ⟨?_, fun x hx => ?_, fun x hx y hy hne b hb => ?_⟩
  · have hl : (Q.take k ++ g :: Q.drop k).length = Q.length + 1 := by
      have := congrArg List.length (List.take_append_drop k Q)
      simp only [List.length_append, List.length_cons] at this ⊢
      omega
    rw [hl, poC_app, show g :: Q.drop k = [g] ++ Q.drop k from rfl, poC_app, poC_upd fun e => hg (List.mem_of_mem_take e), poC_upd fun e => hg (List.mem_of_mem_drop e), ← List.append_assoc]
    have : poC (updG F g (.slice none 0 0)) [g] = [.string (grS g), .slice none 0 0] := by
      show [Value.string (grS g), updG F g (.slice none 0 0) g] ++ [] = _
      rw [updG_self]
      rfl
    rw [this]
    exact hrow
  · rcases hmem x hx with rfl | ⟨h1, h2⟩
    · rw [updG_self, updG_self]
      exact World.ownsRow_nil _ _ _ _
    · rw [updG_ne _ _ h1, updG_ne _ _ h1]
      exact hS x h2
  · rcases hmem x hx with rfl | ⟨h1, h2⟩
    · rw [updG_self] at hb
      cases hb
    · rcases hmem y hy with rfl | ⟨h3, h4⟩
      · rw [updG_self]
        intro e
        cases e
      · rw [updG_ne _ _ h1] at hb
        rw [updG_ne _ _ h3]
        exact h.apart x h2 y h4 hne b hb
/-- a gram's places turn -/
theorem RP.put (h : RP W base u Q f F) (hn : Q.Nodup) (hg : Q[k]? = some g) {v : Value} {l : List Nat} (hk : Keep (fun j => (F g).ownBlock = some j) W W1) (hv : W1.ownsRow base 33 2 v l.length (plC l))
    (hat : v.ownBlock = (F g).ownBlock ∨ v.ownBlock = some W.heap.size) {b n c : Nat} (hu : u = .slice (some ⟨b, 0, none⟩) n c) :
    RP (W1.setCell ⟨b, k * 2 + 1, none⟩ v) base u Q (updG f g l) (updG F g v) := by
  have hgm := List.mem_of_getElem? hg
  have hrow1 : W1.ownsRow base 46 2 u Q.length (poC F Q) := hk.own h.row fun x h1 h2 => absurd (own_types h.row (h.own g hgm) h1 h2) (by decide)
  have hs : Keep (fun j => j = b) W1 (W1.setCell ⟨b, k * 2 + 1, none⟩ v) := Keep.setCell W1 ⟨b, k * 2 + 1, none⟩ v
  have hub : u.ownBlock = some b := by rw [hu]; rfl
  have hown1 : ∀ x ∈ Q, x ≠ g → W1.ownsRow base 33 2 (F x) (f x).length (plC (f x)) := fun x hx hne => hk.own (h.own x hx) fun y h1 h2 => h.apart x hx g hgm hne y h1 h2
  refine ⟨?_, fun x hx => ?_, fun x hx y hy hne z hz => ?_⟩
  · have hl : Q.length = n := by
      rcases hrow1.2 with ⟨e, h0⟩ | ⟨g1, c1, cur, e, -⟩
      · rw [hu] at e
        cases e
      · rw [hu] at e
        injection e with _ e2 _
        exact e2.symm
    have hst := World.ownsRow.stored (by rw [hu, hl] at hrow1; exact hrow1) (k * 2 + 1) v
    rw [poC_set hn hg] at hst
    rw [hu, hl]
    exact hst.1
  · by_cases e : x = g
    · subst e
      rw [updG_self, updG_self]
      exact hs.own hv fun y h1 h2 => absurd (own_types hv hrow1 h1 (by rw [h2]; exact hub)) (by decide)
    · rw [updG_ne _ _ e, updG_ne _ _ e]
      exact hs.own (hown1 x hx e) fun y h1 h2 => absurd (own_types (hown1 x hx e) hrow1 h1 (by rw [h2]; exact hub)) (by decide)
  · have hnew : ∀ x ∈ Q, x ≠ g → ∀ z, (F x).ownBlock = some z → v.ownBlock ≠ some z := fun x hx hne z hz hvz => by
      rcases hat with e | e
      · rw [e] at hvz
        exact h.apart x hx g hgm hne z hz hvz
      · rw [e] at hvz
        injection hvz with hvz
        have := (h.own x hx).lt z hz
        omega
    by_cases e : x = g
    · subst e
      rw [updG_self] at hz
      have e2 : y ≠ x := fun e => hne e.symm
      rw [updG_ne _ _ e2]
      exact fun h1 => hnew y hy e2 z h1 hz
    · rw [updG_ne _ _ e] at hz
      by_cases e2 : y = g
      · subst e2
        rw [updG_self]
        exact hnew x hx e z hz
      · rw [updG_ne _ _ e2]
        exact h.apart x hx y hy hne z hz
end
/-- from one world to a later one: old blocks stay, and each block that is just the posting X -/
structure LeP (B0 : Nat) (X : Array Value) (w w' : World) : Prop where
  os : w'.os = w.os
  tape : w'.tape = w.tape
  output : w'.output = w.output
  size : w.heap.size ≤ w'.heap.size
  block : ∀ k, k < w.heap.size → (k < B0 ∨ w.heap[k]? = some (.cells X 46 (0, 0))) → w'.heap[k]? = w.heap[k]?
theorem leP_trans {B0 : Nat} {X : Array Value} : ∀ a b c, LeP B0 X a b → LeP B0 X b c → LeP B0 X a c := fun a b c h1 h2 =>
  ⟨h2.os.trans h1.os, h2.tape.trans h1.tape, h2.output.trans h1.output, Nat.le_trans h1.size h2.size, fun k hk h => by
    have e := h1.block k hk h
    rw [h2.block k (Nat.lt_of_lt_of_le hk h1.size) (by rcases h with h | h; exact Or.inl h; exact Or.inr (e.trans h)), e]⟩
theorem leP_grow {B0 : Nat} {X : Array Value} : ∀ a b, Grow a b → LeP B0 X a b := fun a b h => ⟨h.os, h.tape, h.output, h.size, fun k hk _ => h.block k hk⟩
theorem LeP.low {B0 : Nat} {X : Array Value} {w w' : World} (h : LeP B0 X w w') (hB : B0 ≤ w.heap.size) : Below B0 w w' := ⟨h.os, h.tape, h.output, h.size, fun k hk => h.block k (by omega) (Or.inl hk)⟩
theorem two_P {B0 : Nat} {x y : Value} {w w' : World} {v v' : Value} {n m : Nat} {xs news : List Value} (ho : w.ownsRow B0 46 2 v n xs) (ho' : w'.ownsRow B0 46 2 v' (n + m) (xs ++ news)) (h2 : TwoWays w v n m v' w')
    (hz : (∃ g, v = .slice (some ⟨g, 0, none⟩) 0 0) ∨ (0 < n + m ∧ (n + m = 1 → xs ++ news = [x, y]))) : LeP B0 #[x, y] w w' := by
  rcases h2 with ⟨g, cap, e1, e2, hg⟩ | ⟨-, hg⟩
  · subst e1 e2
    refine ⟨hg.os, hg.tape, hg.output, hg.size, fun k hk h => ?_⟩
    by_cases hkg : k = g
    · subst hkg
      have hb := (ho.lt k rfl).1
      rcases h with h | h
      · omega
      · rcases ho.2 with ⟨e, -⟩ | ⟨g1, cap1, cur, e, -, hgw, hnc, -, hcs, ht⟩
        · cases e
        · injection e with e3 _ e4
          injection e3 with e3
          injection e3 with e3 _
          subst e3 e4
          rw [hgw] at h
          injection h with h
          injection h with h5 _ _
          subst h5
          have hcap : cap = 1 := by
            have : 2 = cap * 2 := hcs
            omega
          subst hcap
          rcases ho'.2 with ⟨e, -⟩ | ⟨g2, cap2, cur2, e, -, hgw2, hnc2, -, hcs2, ht2⟩
          · cases e
          · injection e with e3 _ e4
            injection e3 with e3
            injection e3 with e3 _
            subst e3 e4
            rcases hz with ⟨g', hv⟩ | ⟨h6, h1⟩
            · injection hv with _ _ hv
              cases hv
            · have h7 : n + m = 1 := by omega
              rw [h1 h7, h7] at ht2
              rw [hgw2, hgw]
              have : cur2 = #[x, y] := by
                have h8 : cur2.toList = [x, y] := by
                  rw [← ht2, List.take_of_length_le (by simp [hcs2])]
                exact Array.toList_inj.1 h8
              rw [this]
    · exact hg.block k hk (fun e => hkg (by injection e))
  · exact leP_grow _ _ hg
/-- a block of one posting that was just made -/
def FactOn.oneP (B0 : Nat) (X : Array Value) : FactOn (LeP B0 X) :=
  ⟨fun u w => ∃ m, u = .slice (some ⟨m, 0, none⟩) 1 1 ∧ Blk w m 46 X, fun _ _ _ hk ⟨m, h1, h2⟩ => ⟨m, h1, (hk.block m h2.lt (Or.inr h2)).trans h2⟩⟩
/-- what the chain has noted -/
def insP (B0 : Nat) (F : Gr → Value) (Q : List Gr) (k : Nat) (t : ByteArray) : List Value → World → Prop
  | [], w => True
  | [v], w => w.ownsRow B0 46 2 v 0 [] ∧ ∃ g, v = .slice (some ⟨g, 0, none⟩) 0 0
  | [_, v], w => w.ownsRow B0 46 2 v k (poC F (Q.take k))
  | [_, _, v], w => w.ownsRow B0 46 2 v (k + 1) (poC F (Q.take k) ++ [.string t, .slice none 0 0])
  | [_, _, _, v], w => w.ownsRow B0 46 2 v (Q.length + 1) (poC F (Q.take k) ++ [.string t, .slice none 0 0] ++ poC F (Q.drop k))
  | _, _ => False
theorem insP.grow {B0 k : Nat} {F : Gr → Value} {Q : List Gr} {t : ByteArray} : ∀ (vals : List Value) (w w2 : World), Grow w w2 → insP B0 F Q k t vals w → insP B0 F Q k t vals w2
  | [], _, _, _, _ => trivial
  | [_], _, _, hg, h => ⟨own_below h.1 hg, h.2⟩
  | [_, _], _, _, hg, h => own_below h hg
  | [_, _, _], _, _, hg, h => own_below h hg
  | [_, _, _, _], _, _, hg, h => own_below h hg
  | _ :: _ :: _ :: _ :: _ :: _, _, _, _, h => h
end Go.Proofs.Ytamdejidkgnaeaa
