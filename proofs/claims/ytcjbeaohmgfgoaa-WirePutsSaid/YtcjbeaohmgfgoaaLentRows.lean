/-
  The walks of mudlarkkit's LentRows and KeptRows.
-/
import Derived.Test.YtcjbeaohmgfgoaaLent
namespace Go.Proofs.Ytcjbeaohmgfgoaa
open Go.RowKit

/-- a slice whose rows are lent ones: it reads as the rows ls -/
def LentRd (w : World) (B : Nat) (A : Option Addr) (n : Nat) (ls : List (List UInt8)) : Prop :=
  ls.length = n ∧ (0 < n → ∃ b off, A = some ⟨b, off, none⟩ ∧ b < B ∧ ∀ (j : Nat) (l : List UInt8), ls[j]? = some l → ∃ g, g < B ∧ w.cell? ⟨b, off + j, none⟩ = some (.slice (some ⟨g, 0, none⟩) l.length (l.length + 12)) ∧ LentAt w g l)

theorem LentAt.below {w w' : World} {g B : Nat} {l : List UInt8} (h : LentAt w g l) (hb : Below B w w') (hg : g < B) : LentAt w' g l := Blk.below h hb hg
theorem LentAt.bytes {w : World} {g B : Nat} {l : List UInt8} (h : LentAt w g l) (hg : g < B) : BytesAt w B (some ⟨g, 0, none⟩) l.length l :=
  BytesAt.of_cells h.cells hg rfl (fun j x hx => by
    have e := lent_get1 l j x hx
    rw [List.getElem?_toArray, List.getElem?_map, e]
    rfl)
theorem LentRd.below {w w' : World} {B n : Nat} {A : Option Addr} {ls : List (List UInt8)} (h : LentRd w B A n ls) (hb : Below B w w') : LentRd w' B A n ls :=
  ⟨h.1, fun hn => by
    obtain ⟨b, off, e, hlt, hc⟩ := h.2 hn
    refine ⟨b, off, e, hlt, fun j l hl => ?_⟩
    obtain ⟨g, h1, h2, h3⟩ := hc j l hl
    exact ⟨g, h1, (hb.cell (p := ⟨b, off + j, none⟩) hlt).trans h2, h3.below hb h1⟩⟩
theorem LentRd.drewN {w : World} {B n : Nat} {A : Option Addr} {ls : List (List UInt8)} (h : LentRd w B A n ls) (k : Nat) : LentRd (w.drewN k) B A n ls := h
theorem LentRd.rows {w : World} {B n : Nat} {A : Option Addr} {ls : List (List UInt8)} (h : LentRd w B A n ls) (hlen : ∀ l ∈ ls, l.length ≤ 1000000) : RowsAt w B A n ls :=
  ⟨h.1, fun hn => by
    obtain ⟨b, off, e, hlt, hc⟩ := h.2 hn
    refine ⟨b, off, e, hlt, fun j l hl => ?_⟩
    obtain ⟨g, h1, h2, h3⟩ := hc j l hl
    have := hlen l (List.mem_of_getElem? hl)
    exact ⟨_, _, _, h2, by omega, by unfold maxLen; omega, h3.bytes h1⟩⟩

/-- what the loop of the rows holds -/
structure RowsInv (w : World) (ls : List (List UInt8)) (k : Nat) (v : Value) (wr : World) : Prop where
  rows : ∃ gs : List Nat, gs.length = k ∧ wr.ownsRow w.heap.size 22 1 v k ((gs.zip ls).map fun p => Value.slice (some ⟨p.1, 0, none⟩) p.2.length (p.2.length + 12)) ∧
    ∀ (j g : Nat) (l : List UInt8), gs[j]? = some g → ls[j]? = some l → w.heap.size ≤ g ∧ g < wr.heap.size ∧ v.ownBlock ≠ some g ∧ LentAt wr g l
  below : Below w.heap.size w wr

theorem zip_snoc {α β : Type} (gs : List α) (ls : List β) (g : α) (l : β) (h : ls[gs.length]? = some l) : (gs ++ [g]).zip ls = gs.zip ls ++ [(g, l)] := by
  have e : ls = ls.take gs.length ++ (l :: ls.drop (gs.length + 1)) := by
    have hlt := (List.getElem?_eq_some_iff.1 h).1
    have h2 : l = ls[gs.length] := by
      have := (List.getElem?_eq_some_iff.1 h).2
      exact this.symm
    rw [h2, List.getElem_cons_drop, List.take_append_drop]
  have hlen : (ls.take gs.length).length = gs.length := by
    rw [List.length_take]
    have := (List.getElem?_eq_some_iff.1 h).1
    omega
  have e1 : gs.zip ls = gs.zip (ls.take gs.length) := by
    have e2 : gs.zip ls = (gs ++ []).zip (ls.take gs.length ++ (l :: ls.drop (gs.length + 1))) := by rw [List.append_nil, ← e]
    rw [e2, List.zip_append hlen.symm]
    simp
  have e3 : (gs ++ [g]).zip ls = (gs ++ [g]).zip (ls.take gs.length ++ (l :: ls.drop (gs.length + 1))) := by rw [← e]
  rw [e3, List.zip_append hlen.symm, e1]
  simp

theorem RowsInv.next {w : World} {ls : List (List UInt8)} {k : Nat} {v v' : Value} {wr w1 w2 : World} {l : List UInt8} {t : Nat} (h : RowsInv w ls k v wr) (hl : ls[k]? = some l)
    (hlent : LentAt w1 wr.heap.size l) (hb1 : Below wr.heap.size wr w1) (hz : wr.heap.size < w1.heap.size) (xs : List Value)
    (hown : w2.ownsRow w.heap.size 22 1 v' (k + 1) (xs ++ [.slice (some ⟨wr.heap.size, 0, none⟩) l.length (l.length + 12)]))
    (u : Value) (hg : (w1.alloc (.cells #[u] t)).grownBy w2 v.ownBlock) (hat : v'.ownBlock = v.ownBlock ∨ v'.ownBlock = some (w1.heap.size + 1))
    (gs : List Nat) (hgs : gs.length = k) (hx : xs = (gs.zip ls).map fun p => Value.slice (some ⟨p.1, 0, none⟩) p.2.length (p.2.length + 12))
    (ho : ∀ g, v.ownBlock = some g → g < wr.heap.size)
    (hold : ∀ (j g : Nat) (l : List UInt8), gs[j]? = some g → ls[j]? = some l → w.heap.size ≤ g ∧ g < wr.heap.size ∧ v.ownBlock ≠ some g ∧ LentAt wr g l) : RowsInv w ls (k + 1) v' w2 := by
  have hws := h.below.size
  have hsz2 : w1.heap.size + 1 ≤ w2.heap.size := by have := hg.size; simpa using this
  have keep : ∀ g l', g < w1.heap.size → v.ownBlock ≠ some g → LentAt w1 g l' → LentAt w2 g l' := fun g l' hg1 hg2 hg3 => (Blk.alloc hg3 _).grown hg (fun e => hg2 e.symm)
  refine ⟨⟨gs ++ [wr.heap.size], by simp [hgs], ?_, ?_⟩, (h.below.trans (hb1.mono hws)).trans ?_⟩
  · rw [zip_snoc gs ls _ l (by rw [hgs]; exact hl), List.map_append, ← hx]
    exact hown
  · intro j g l' hj hl'
    by_cases hjk : j < k
    · rw [List.getElem?_append_left (by omega)] at hj
      obtain ⟨h1, h2, h3, h4⟩ := hold j g l' hj hl'
      refine ⟨h1, by omega, ?_, keep g l' (by omega) h3 (h4.below hb1 h2)⟩
      rcases hat with e | e
      · rw [e]; exact h3
      · rw [e]
        intro e2
        injection e2 with e2
        omega
    · have hjlt := (List.getElem?_eq_some_iff.1 hj).1
      simp [hgs] at hjlt
      obtain rfl : j = k := by omega
      have e3 : g = wr.heap.size := by
        rw [List.getElem?_append_right (by omega), hgs] at hj
        simpa using hj.symm
      subst e3
      rw [hl] at hl'
      cases hl'
      have h3 : v.ownBlock ≠ some wr.heap.size := fun e => by have := ho _ e; omega
      refine ⟨hws, by omega, ?_, keep _ _ hz h3 hlent⟩
      rcases hat with e | e
      · rw [e]; exact h3
      · rw [e]
        intro e2
        injection e2 with e2
        omega
  · exact ((Below.refl w.heap.size w1).alloc (by have := hb1.size; omega) _).grown hg (by have := hb1.size; simp; omega) (fun g e => by
      obtain ⟨_, _, hown1, _⟩ := h.rows
      exact (hown1.lt g e).1)
theorem RowsInv.rd {w : World} {ls : List (List UInt8)} {k : Nat} {v : Value} {wr : World} (h : RowsInv w ls k v wr) (hk : k = ls.length) : ∃ A c, v = .slice A k c ∧ k ≤ c ∧ c ≤ maxLen ∧ LentRd wr wr.heap.size A k ls := by
  obtain ⟨gs, h1, h2, h3⟩ := h.rows
  rcases h2.2 with ⟨rfl, rfl⟩ | ⟨g, cap, cur, rfl, hb, hg, hnc, hcm, _⟩
  · exact ⟨none, 0, rfl, Nat.le_refl _, Nat.zero_le _, by omega, fun h0 => absurd h0 (by omega)⟩
  · refine ⟨some ⟨g, 0, none⟩, cap, rfl, hnc, hcm, by omega, fun _ => ⟨g, 0, rfl, (h2.lt g rfl).2, fun j l hl => ?_⟩⟩
    have hj := (List.getElem?_eq_some_iff.1 hl).1
    obtain ⟨gj, hgj⟩ : ∃ gj, gs[j]? = some gj := ⟨_, List.getElem?_eq_getElem (by omega)⟩
    obtain ⟨q1, q2, q3, q4⟩ := h3 j gj l hgj hl
    refine ⟨gj, q2, ?_, q4⟩
    rw [Nat.zero_add, h2.cellAt j (by omega), List.getElem?_map]
    have : (gs.zip ls)[j]? = some (gj, l) := by rw [List.getElem?_zip_eq_some]; exact ⟨hgj, hl⟩
    rw [this]
    rfl

theorem rowsTy : AppTy Try.prog 28 22 (.slice none 0 0) 1 24 := AppTy.mk' Try.underlying28 (by kernel_rfl) rfl (by decide)
theorem len_le_flat {ls : List (List UInt8)} {l : List UInt8} {N : Nat} (h : ls.flatten.length ≤ N) (hl : l ∈ ls) : l.length ≤ N := by
  induction ls with
  | nil => simp at hl
  | cons a r ih =>
    rw [List.flatten_cons, List.length_append] at h
    rcases List.mem_cons.1 hl with rfl | h1
    · omega
    · exact ih (by omega) h1

set_option maxRecDepth 100000 in
set_option maxHeartbeats 1000000 in
theorem LentRows_any (w : World) (B : Nat) (A : Option Addr) (n c : Nat) (ls : List (List UInt8)) (hR : RowsAt w B A n ls) (hB : B ≤ w.heap.size) (hn : n ≤ 1000000) (htot : ∀ l ∈ ls, l.length ≤ 1000000) :
    Calls Try.prog 14 #[.slice A n c] w fun e w' => ∃ A' c', e = .returned (.slice A' n c') ∧ n ≤ c' ∧ c' ≤ maxLen ∧ LentRd w' w'.heap.size A' n ls ∧ Below w.heap.size w w' := by
  have Hlen := Lib.hid hR.1
  go_enter Try.func14, Try.ntmps14
  go_wp2
  go_loopw [3, 4] (fun v3 v4 wr => ∃ k : Nat, k ≤ n ∧ v4 = .int .i64 (k : Int) ∧ RowsInv w ls k v3 wr) (fun _ v4 _ => n - (intOf v4).toNat)
  case atStart => exact ⟨0, by omega, rfl, ⟨[], rfl, World.ownsRow_nil _ _ _ _, by simp⟩, Below.refl _ _⟩
  case round =>
    obtain ⟨k, hk, rfl, hI⟩ := hrel
    by_cases hlt : k < n
    · obtain ⟨b, off, rfl, hb, hcl⟩ := hR.2 (by omega)
      obtain ⟨l, hl⟩ : ∃ l, ls[k]? = some l := ⟨_, List.getElem?_eq_getElem (by rw [Hlen.out]; exact hlt)⟩
      obtain ⟨A', m, c', hcell, hm1, hm2, hrow⟩ := hcl k l hl
      have hcell' := (hI.below.cell (p := ⟨b, off + k, none⟩) (show b < _ by omega)).trans hcell
      have hrow' := (hrow.more hB).below hI.below
      have hbs := hI.below.size
      have hml : m ≤ 1000000 := by have := htot l (List.mem_of_getElem? hl); rw [hrow.len] at this; exact this
      obtain ⟨gs, hgs, hown, hold⟩ := hI.rows
      have Hold := Lib.hid hold
      have Hgs := Lib.hid hgs
      have Hl := Lib.hid hl
      have Hm := Lib.hid hrow.len
      clear hl hcl hcell hold hgs
      obtain ⟨xs, hxs⟩ : ∃ xs, xs = (gs.zip ls).map fun p => Value.slice (some ⟨p.1, 0, none⟩) p.2.length (p.2.length + 12) := ⟨_, rfl⟩
      rw [← hxs] at hown
      have Hxs := Lib.hid hxs
      clear hxs
      go_wp2_with (first | (go_at_call 48; refine (LentBytes_any _ _ _ _ _ l hrow' hbs (by omega)).mono ?_; rintro e w1 ⟨rfl, hlent, hb1⟩; have hz := hlent.lt) | (at_builtin; refine wpList_append_reads _ rfl (.tmp 11) (.tmp 17) rfl rowsTy rfl ((own_below hown hb1).alloc _) rfl (ReadsAt.made1 _ _ _) (by simp [Value.oneCell']) (by simp only [maxLen]; omega) (by omega) (by have := hb1.size; simp; omega) ?_; intro v' w2 hown2 hgrow hat))
      go_roundw
      case rel =>
        refine ⟨k + 1, by omega, by go_num, hI.next Hl.out hlent hb1 hz xs (by rw [Hm.out]; exact hown2) _ hgrow (hat.imp id fun e => by simpa using e) gs Hgs.out Hxs.out (fun g e => (hown.lt g e).2) Hold.out⟩
      case measure => simp [intOf]; omega
    · obtain rfl : k = n := by omega
      obtain ⟨A', c', rfl, h1, h2, h3⟩ := hI.rd Hlen.out.symm
      go_wp2
      go_ret
      exact ⟨A', c', rfl, h1, h2, h3, hI.below⟩

set_option maxRecDepth 100000 in
set_option maxHeartbeats 1000000 in
/-- what was lent is as it was -/
theorem KeptRows_yes (w : World) (B B2 : Nat) (A A2 : Option Addr) (n c c2 : Nat) (ls : List (List UInt8)) (hL : LentRd w B A n ls) (hR : RowsAt w B2 A2 n ls) (hn : n ≤ 1000000) (htot : ∀ l ∈ ls, l.length ≤ 1000000) :
    Calls Try.prog 20 #[.slice A n c, .slice A2 n c2] w fun e w' => e = .returned (.bool true) ∧ ∃ q, w.drewN q = w' := by
  have hnb : ((n : Int) == (n : Int)) = true := by simp
  have Hlen := Lib.hid hR.1
  go_enter Try.func20, Try.ntmps20
  go_wp2
  go_loopw [5] (fun v5 wr => ∃ k q : Nat, k ≤ n ∧ v5 = .int .i64 (k : Int) ∧ w.drewN q = wr) (fun v5 _ => n - (intOf v5).toNat)
  case atStart => exact ⟨0, 0, by omega, rfl, rfl⟩
  case round =>
    obtain ⟨k, q, hk, rfl, rfl⟩ := hrel
    by_cases hlt : k < n
    · obtain ⟨b, off, rfl, hb, hcl⟩ := hL.2 (by omega)
      obtain ⟨b2, off2, rfl, hb2, hcl2⟩ := hR.2 (by omega)
      obtain ⟨l, hl⟩ : ∃ l, ls[k]? = some l := ⟨_, List.getElem?_eq_getElem (by rw [Hlen.out]; exact hlt)⟩
      obtain ⟨g, hg, hcell, hlent⟩ := hcl k l hl
      obtain ⟨A', m, c', hcell2, hm1, hm2, hrow⟩ := hcl2 k l hl
      have hml : m ≤ 1000000 := by have := htot l (List.mem_of_getElem? hl); rw [hrow.len] at this; exact this
      rw [hrow.len] at hcell
      have Hk := Lib.hid (fun W (h1 : LentAt W g l) (h2 : BytesAt W B2 A' m l) => KeptBytes_yes W B2 g A' m c' l h1 h2 (by omega))
      clear hcl hcl2 hl
      go_wp2_with fail
      go_quiet ((go_at_call 50; exact quiet_add_drew (Hk.out _ hlent hrow)))
      go_wp2
      go_roundw
      case rel => exact ⟨k + 1, _, by omega, by go_num, rfl⟩
      case measure => simp [intOf]; omega
    · obtain rfl : k = n := by omega
      go_wp2
      go_ret
      exact ⟨rfl, _, rfl⟩
end Go.Proofs.Ytcjbeaohmgfgoaa
