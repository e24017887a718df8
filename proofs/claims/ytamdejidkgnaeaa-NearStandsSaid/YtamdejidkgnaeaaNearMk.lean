/-
  The walk of post's Make: the places of all texts of three bytes.
-/
import Derived.Test.YtamdejidkgnaeaaGramAt
import Derived.Test.YtamdejidkgnaeaaNearIter
import Derived.Test.YtamdejidkgnaeaaNearFind
namespace Go.Proofs.Ytamdejidkgnaeaa
open Go.RowKit Go.Maps Go.ChangeShapes Go.WideShapes NearM GramM
set_option linter.unusedVariables false
theorem allPl_snoc : ∀ (l : List (List UInt8)) (d : Nat) (b : List UInt8), allPl d (l ++ [b]) = allPl d l ++ rowPl (d + l.length) b.length
  | [], d, b => by simp [allPl]
  | a :: l, d, b => by
    rw [List.cons_append, allPl, allPl_snoc l (d + 1) b, allPl, List.append_assoc]
    congr 3
    simp only [List.length_cons]
    omega
/-- the places that have been gone through -/
def preP (docs : List (List UInt8)) (i k : Nat) : List Pl := allPl 0 (docs.take i) ++ rowPl i k
theorem rowPl_snoc (d k : Nat) : rowPl d (k + 1) = rowPl d k ++ [(d, k)] := by
  unfold rowPl
  rw [List.range_succ, List.map_append]
  rfl
theorem preP_step (docs : List (List UInt8)) (i k : Nat) : preP docs i (k + 1) = preP docs i k ++ [(i, k)] := by
  unfold preP
  rw [rowPl_snoc, List.append_assoc]
theorem preP_next {docs : List (List UInt8)} {i : Nat} {b : List UInt8} (hb : docs[i]? = some b) : preP docs (i + 1) 0 = preP docs i b.length := by
  have hl := (List.getElem?_eq_some_iff.1 hb).1
  have e : docs.take (i + 1) = docs.take i ++ [b] := by rw [List.take_add_one, hb]; rfl
  unfold preP
  rw [e, allPl_snoc, Nat.zero_add, List.length_take, Nat.min_eq_left (Nat.le_of_lt hl)]
  simp [rowPl]
theorem preP_all (docs : List (List UInt8)) : preP docs docs.length 0 = allPl 0 docs := by
  unfold preP
  rw [List.take_of_length_le (Nat.le_refl _)]
  simp [rowPl]
/-- of the places that have been gone through those of three bytes -/
def preF (docs : List (List UInt8)) (pre : List Pl) (g : List UInt8) : List Pl := pre.filter fun p => decide (gAt docs p = some g)
theorem preF_some {docs : List (List UInt8)} {pre : List Pl} {p : Pl} {g : List UInt8} (h : gAt docs p = some g) : preF docs (pre ++ [p]) = fun x => if x = g then preF docs pre g ++ [p] else preF docs pre x := by
  funext x
  unfold preF
  rw [List.filter_append]
  by_cases e : x = g
  · subst e
    rw [if_pos rfl, List.filter_cons_of_pos (by simpa using h)]
    rfl
  · rw [if_neg e, List.filter_cons_of_neg (by
      rw [decide_eq_true_eq, h]
      intro h2
      injection h2 with h2
      exact e h2.symm)]
    simp
theorem preF_none {docs : List (List UInt8)} {pre : List Pl} {p : Pl} (h : gAt docs p = none) : preF docs (pre ++ [p]) = preF docs pre := by
  funext x
  unfold preF
  rw [List.filter_append, List.filter_cons_of_neg (by rw [decide_eq_true_eq, h]; simp)]
  simp
theorem gAt_gram {docs : List (List UInt8)} {i k : Nat} {b : List UInt8} (hb : docs[i]? = some b) : gAt docs (i, k) = ((grams b)[k]?).map fun g => (grS g).data.toList := by
  cases hg : (grams b)[k]? with
  | none =>
    have hl : b.length - 2 ≤ k := by
      rcases Nat.lt_or_ge k (grams b).length with h | h
      · rw [List.getElem?_eq_getElem h] at hg
        cases hg
      · rwa [grams_len] at h
    unfold gAt
    simp only [hb, Option.bind_some]
    rw [if_neg (by omega)]
    rfl
  | some g =>
    have hl := (List.getElem?_eq_some_iff.1 hg).1
    rw [grams_len] at hl
    obtain ⟨h1, h2, h3⟩ := grams_of hg
    rw [gAt_of (p := (i, k)) hb (by show k + 3 ≤ _; omega)]
    simp only [Option.map_some, Option.some.injEq]
    refine List.ext_getElem? fun j => ?_
    simp only [List.getElem?_take, List.getElem?_drop, grS]
    match j with
    | 0 => simpa using h1
    | 1 => simpa using h2
    | 2 => simpa using h3
    | j + 3 =>
      simp
      omega
theorem own_formM {w : World} {base e size n : Nat} {v : Value} {xs : List Value} (h : w.ownsRow base e size v n xs) : ∃ A c, v = .slice A n c := by
  obtain ⟨A, c, e, -⟩ := own_reads h
  exact ⟨A, c, e⟩
/-- the map as it is built -/
structure MkI (w : World) (mb N : Nat) (docs : List (List UInt8)) (pre : List Pl) (W : World) : Prop where
  map : ∃ nn M, nn ≤ pre.length ∧ PMap W w.heap.size mb nn M (preF docs pre)
  grow : Grow w W
theorem RowsAt.get {w : World} {B n : Nat} {A : Option Addr} {ls : List (List UInt8)} (h : RowsAt w B A n ls) {k : Nat} {l : List UInt8} (hk : ls[k]? = some l) : ∃ b off A' n' c', A = some ⟨b, off, none⟩ ∧ b < B ∧ w.cell? ⟨b, off + k, none⟩ = some (.slice A' n' c') ∧ n' ≤ c' ∧ c' ≤ maxLen ∧ BytesAt w B A' n' l := by
  obtain ⟨b, off, e, hb, hc⟩ := h.2 (by have h1 := (List.getElem?_eq_some_iff.1 hk).1; have h2 := h.1; omega)
  obtain ⟨A', n', c', h1, h2, h3, h4⟩ := hc k l hk
  exact ⟨b, off, A', n', c', e, hb, h1, h2, h3, h4⟩
theorem PMap.put1 {W W1 W6 : World} {base mb nn : Nat} {M : SM} {f : List UInt8 → List Pl} (h : PMap W base mb nn M f) {s : ByteArray} (hs : s.size ≤ maxLen) (hn : nn < maxLen) {q : Nat} (hq : q = (f s.data.toList).length) {A : Option Addr} {c : Nat} (hvb : (Value.slice A q c).ownBlock = (M s.data.toList).map fun t => t.1)
    (hg : Grow W W1) {v' : Value} {i k : Nat} (hown : W6.ownsRow base 33 2 v' (q + 1) (plCs (f s.data.toList) ++ [.int .i64 (i : Int), .int .i64 (k : Int)])) (hgr : W1.grownBy W6 (Value.slice A q c).ownBlock) (hat : v'.ownBlock = (Value.slice A q c).ownBlock ∨ v'.ownBlock = some W1.heap.size) :
    ∃ t W2, (Instr.mapUpdate 38 (.map (some mb)) (.string s) v').run Try.prog W6 = .ok () W2 ∧ PMap W2 base mb (nn + 1) (putS M s.data.toList (some t)) (fun x => if x = s.data.toList then f s.data.toList ++ [(i, k)] else f x) ∧ Keep (fun j => j = mb) W6 W2 := by
  have ha : W6.ownsRow base 33 2 v' (f s.data.toList ++ [(i, k)]).length (plCs (f s.data.toList ++ [(i, k)])) := by
    rw [plCs_snoc, List.length_append, ← hq]
    exact hown
  have hb : Keep (fun j => ((M s.data.toList).map fun t => t.1) = some j) W W6 := by
    rw [← hvb]
    exact (Keep.grow hg).trans' (Keep.grown hgr)
  have hc : ∀ b, v'.ownBlock = some b → ((M s.data.toList).map fun t => t.1) = some b ∨ W.heap.size ≤ b := by
    intro b hb
    rcases hat with h | h
    · exact Or.inl (by rw [← hvb, ← h]; exact hb)
    · rw [h] at hb
      injection hb with hb
      exact Or.inr (by rw [← hb]; exact hg.size)
  obtain ⟨t, W2, -, h2⟩ := h.put (W1 := W6) (v := v') (p := (i, k)) rfl hs hn ha hb hc
  exact ⟨t, W2, h2⟩
/-- the cells of postings -/
def poCs (M : SM) (l : List (List UInt8)) : List Value := l.flatMap fun x => [.string ⟨x.toArray⟩, ((M x).map slV).getD (.slice none 0 0)]
theorem poCs_snoc (M : SM) (l : List (List UInt8)) (x : List UInt8) : poCs M (l ++ [x]) = poCs M l ++ [.string ⟨x.toArray⟩, ((M x).map slV).getD (.slice none 0 0)] := by simp [poCs]
theorem poCs_len (M : SM) (l : List (List UInt8)) : (poCs M l).length = l.length * 2 := by
  induction l with
  | nil => rfl
  | cons p l ih => simp only [poCs, List.flatMap_cons, List.length_append, List.length_cons, List.length_nil] at ih ⊢; omega
theorem poCs_at {M : SM} {l : List (List UInt8)} {k : Nat} {x : List UInt8} (h : l[k]? = some x) : (poCs M l)[k * 2]? = some (.string ⟨x.toArray⟩) ∧ (poCs M l)[k * 2 + 1]? = some (((M x).map slV).getD (.slice none 0 0)) := by
  induction l generalizing k with
  | nil => simp at h
  | cons q l ih =>
    cases k with
    | zero =>
      simp only [List.getElem?_cons_zero, Option.some.injEq] at h
      subst h
      exact ⟨rfl, rfl⟩
    | succ k =>
      rw [List.getElem?_cons_succ] at h
      have h1 := ih h
      have e1 : (k + 1) * 2 = k * 2 + 1 + 1 := by omega
      have e2 : (k + 1) * 2 + 1 = k * 2 + 1 + 1 + 1 := by omega
      rw [e1]
      simp only [poCs, List.flatMap_cons, List.cons_append, List.nil_append, List.getElem?_cons_succ] at h1 ⊢
      exact h1
theorem PMap.posts {W : World} {base mb nn : Nat} {M : SM} {f : List UInt8 → List Pl} (h : PMap W base mb nn M f) {L : List (List UInt8)} (hL : ∀ x ∈ L, M x ≠ none) {A : Option Addr} {n : Nat} (hr : ReadsAt W W.heap.size 2 A n (poCs M L)) : PostsAt W W.heap.size A n (L.map fun x => (⟨x.toArray⟩, f x)) := by
  obtain ⟨h1, h2⟩ := hr
  rw [poCs_len] at h1
  refine ⟨by rw [List.length_map]; omega, fun hn => ?_⟩
  obtain ⟨b, off, rfl, hb, hc⟩ := h2 hn
  refine ⟨b, off, rfl, hb, fun j a ha => ?_⟩
  rw [List.getElem?_map] at ha
  cases hx : L[j]? with
  | none => rw [hx] at ha; cases ha
  | some x =>
    rw [hx] at ha
    injection ha with ha
    subst ha
    obtain ⟨e1, e2⟩ := poCs_at (M := M) hx
    cases hM : M x with
    | none => exact absurd hM (hL x (List.mem_of_getElem? hx))
    | some t =>
      rw [hM] at e2
      have hfx : f x ≠ [] := fun e => by
        have := (h.none_ x).2 e
        rw [hM] at this
        cases this
      have hrow := h.row x t hM
      obtain ⟨g, cap, e, -, -, h4, h5⟩ := own_slice hrow (List.length_pos_iff.2 hfx)
      refine ⟨[.string ⟨x.toArray⟩, slV t], rfl, ⟨some ⟨g, 0, none⟩, _, cap, by rw [e], h4, h5, own_pls (by rw [← e]; exact hrow) rfl⟩, fun i u hu => ?_⟩
      match i, hu with
      | 0, hu =>
        injection hu with hu
        rw [← hu]
        exact hc _ _ e1
      | 1, hu =>
        injection hu with hu
        rw [← hu]
        exact hc _ _ e2
theorem strKeys_nodup {w : World} {b n : Nat} {D : DataW Unit} (hown : w.ownsMap Try.prog 9 Rs b n D) : (strKeys D).Nodup := by
  obtain ⟨es, hD, hpw, _⟩ := hown.entries nstr_law
  obtain ⟨es', hD', hko⟩ := hown.keysOf
  obtain rfl : es = es' := by rw [hD] at hD'; simpa using hD'
  subst hD
  show (es.map fun p => strOf p.1).Nodup
  refine List.pairwise_map.2 (hpw.imp_of_mem fun {p q} hp' hq' hne e => hne ?_)
  obtain ⟨v, hv⟩ := hko p hp'
  obtain ⟨v', hv'⟩ := hko q hq'
  obtain ⟨a, _, ha, _⟩ := Maps.keyOf_str Try.underlying9 hv
  obtain ⟨b, _, hb, _⟩ := Maps.keyOf_str Try.underlying9 hv'
  rw [ha, hb] at e ⊢
  exact congrArg _ e
theorem key_some {w : World} {mb n : Nat} {M : SM} {D : DataW Unit} (hown : w.ownsMap Try.prog 9 Rs mb n D) (hD : ∀ l : List UInt8, M l = none → Maps.has D (.string l) = false) {x : List UInt8} (hx : x ∈ strKeys D) : (∃ t, M x = some t) ∧ x.length ≤ maxLen := by
  refine ⟨?_, strKeys_le hown Try.underlying9 x hx⟩
  obtain ⟨es, rfl, hk⟩ := hown.keysOf
  have hh : Maps.has (.map es) (.string x) = true := by
    obtain ⟨p, hp, e⟩ := List.mem_map.1 hx
    rw [Maps.has_eq, List.any_eq_true]
    refine ⟨p, hp, ?_⟩
    obtain ⟨key, hkey⟩ := hk p hp
    obtain ⟨y, -, e2, -⟩ := Maps.keyOf_str Try.underlying9 hkey
    rw [e2] at e ⊢
    have e : y = x := e
    subst e
    exact WideAt.sameKey_self trivial
  cases hM : M x with
  | some t => exact ⟨t, rfl⟩
  | none =>
    rw [hD x hM] at hh
    cases hh
theorem some_key {w : World} {mb n : Nat} {D : DataW Unit} (hown : w.ownsMap Try.prog 9 Rs mb n D) {l : List UInt8} (hh : Maps.has D (.string l) = true) : l ∈ strKeys D := by
  obtain ⟨es, rfl, hk⟩ := hown.keysOf
  rw [Maps.has_eq, List.any_eq_true] at hh
  obtain ⟨p, hp, e⟩ := hh
  obtain ⟨key, hkey⟩ := hk p hp
  obtain ⟨y, -, e2, -⟩ := Maps.keyOf_str Try.underlying9 hkey
  rw [e2] at e
  have e : y = l := by simpa [Lit.sameKey] using e
  subst e
  exact List.mem_map.2 ⟨p, hp, by rw [e2]; rfl⟩
theorem SMapAt.look1 {w : World} {mb n : Nat} {M : SM} (h : SMapAt w mb n M) (s : ByteArray) (hs : s.size ≤ maxLen) {x : List UInt8} (hx : s.data.toList = x) {b q c : Nat} (hM : M x = some (b, q, c)) :
    (Instr.lookup 38 (.map (some mb)) (.string s) false).run Try.prog w = .ok (.slice (some ⟨b, 0, none⟩) q c) w := by
  rw [h.look s hs, hx, hM]
  rfl
set_option maxRecDepth 100000 in
set_option maxHeartbeats 4000000 in
theorem pMake_any (w : World) (B : Nat) (A : Option Addr) (n c : Nat) (docs : List (List UInt8)) (hR : RowsAt w B A n docs) (hB : B ≤ w.heap.size) (hn : n ≤ 1000000) (hN : ∀ i k, i ≤ n → (k = 0 ∨ ∃ b, docs[i]? = some b ∧ k ≤ b.length) → (preP docs i k).length ≤ 1000000) (hlen : ∀ b ∈ docs, b.length ≤ 1000000) :
    Calls Try.prog 6 #[.slice A n c] w fun e w' => ∃ A' m c' ps, e = .returned (.slice A' m c') ∧ PostsAt w' w'.heap.size A' m ps ∧ Grow w w' ∧ (ps.map (·.1)).Nodup ∧ (∀ p ∈ ps, p.2 = plOf docs p.1.data.toList) ∧ (∀ g, plOf docs g ≠ [] → ∃ p ∈ ps, p.1.data.toList = g) ∧ m ≤ 1000000 := by
  have placeTy : AppTy Try.prog 30 33 (.agg #[.int .i64 0, .int .i64 0]) 2 16 := AppTy.mk' Try.underlying30 (by kernel_rfl) rfl (by decide)
  have postTy : AppTy Try.prog 27 46 (.agg #[.string .empty, .slice none 0 0]) 2 40 := AppTy.mk' Try.underlying27 (by kernel_rfl) rfl (by decide)
  have hmk : (Instr.makeMap 38 none).run Try.prog w = .ok (.map (some w.heap.size)) (w.alloc (.map #[] 0)) := rfl
  obtain ⟨w1, hw1⟩ : ∃ w1, w.alloc (.map #[] 0) = w1 := ⟨_, rfl⟩
  have hm1 : SMapAt w1 w.heap.size 0 (fun _ => none) := by rw [← hw1]; exact SMapAt.made w
  have hg1 : Grow w w1 := by rw [← hw1]; exact Grow.alloc _ _
  have Hlen := Lib.hid hR.1
  have HR := Lib.hid (show ∀ W, Grow w W → RowsAt W B A n docs from fun W hg => hR.below (Below.mono hg hB))
  have HN := Lib.hid hN
  have Hdl := Lib.hid hlen
  have H1 := Lib.hid (show MkI w w.heap.size 0 docs (preP docs 0 0) w1 from ⟨⟨0, _, Nat.zero_le _, hm1, Nat.le_refl _, fun g => ⟨fun _ => rfl, fun _ => rfl⟩, fun g s hs => (by cases hs), fun g s g' s' hs => (by cases hs)⟩, hg1⟩)
  rw [hw1] at hmk
  clear hR hN hlen hm1 hg1 hw1
  go_enter Try.func6, Try.ntmps6
  go_wp2_with fail
  clear hmk
  go_loopw [4, 5, 6, 7, 8, 14, 21] (fun v4 v5 v6 v7 v8 v14 v21 wr => ∃ i : Nat, i ≤ n ∧ v14 = .int .i64 (i : Int) ∧ Hid (MkI w w.heap.size 0 docs (preP docs i 0) wr)) (fun _ _ _ _ _ v14 _ _ => n - (intOf v14).toNat)
  case atStart => exact ⟨0, by omega, rfl, H1⟩
  case round =>
    obtain ⟨i, hi, rfl, hI⟩ := hrel
    obtain ⟨wo, rfl⟩ : ∃ wo, wo = wr := ⟨_, rfl⟩
    by_cases hlt : i < n
    · have d1 : decide ((i : Int) < (n : Int)) = true := decide_eq_true (by omega)
      obtain ⟨b, hb⟩ : ∃ b, docs[i]? = some b := ⟨_, List.getElem?_eq_getElem (by rw [Hlen.out]; exact hlt)⟩
      obtain ⟨b1, o1, A2, n2, c2, rfl, hb1, hcb0, hn2, -, hbb⟩ := (HR.out w (Grow.refl w)).get hb
      have hcb : wo.cell? ⟨b1, o1 + i, none⟩ = some (.slice A2 n2 c2) := (hI.out.grow.cell (p := ⟨b1, o1 + i, none⟩) (Nat.lt_of_lt_of_le hb1 hB)).trans hcb0
      have hbl := hbb.len
      have hn2b : n2 ≤ 1000000 := by rw [← hbl]; exact Hdl.out b (List.mem_of_getElem? hb)
      have Hbb := Lib.hid (show ∀ W, Grow w W → BytesAt W B A2 n2 b from fun W hg => hbb.below (Below.mono hg hB))
      have Hb := Lib.hid hb
      have Hbl := Lib.hid hbl
      have hBw := hI.out.grow.size
      have HgI := Lib.hid hI.out.grow
      clear hbb hb hbl hcb0
      go_wp2_with fail
      go_loopw [6, 7, 8, 21] (fun v6 v7 v8 v21 wr => ∃ k : Nat, k ≤ n2 ∧ v21 = .int .i64 (k : Int) ∧ Hid (MkI w w.heap.size 0 docs (preP docs i k) wr)) (fun _ _ _ v21 _ => n2 - (intOf v21).toNat)
      case atStart => exact ⟨0, by omega, rfl, hI⟩
      case round =>
        obtain ⟨k, hk, rfl, hI2⟩ := hrel
        by_cases hkl : k < n2
        · have d2 : decide ((k : Int) < (n2 : Int)) = true := decide_eq_true (by omega)
          have hat := at_any wr B A2 n2 c2 b (k : Int) (Hbb.out wr hI2.out.grow) hn2 (by omega) (by omega) (by omega)
          have hgg := gAt_gram (k := k) Hb.out
          have hstep := preP_step docs i k
          have hpl : (preP docs i k).length ≤ 1000000 := HN.out i k (by omega) (Or.inr ⟨b, Hb.out, by rw [Hbl.out]; omega⟩)
          unfold atV at hat
          rw [if_pos (by omega), Int.toNat_natCast] at hat
          cases hg : (grams b)[k]? with
          | none =>
            rw [hg] at hat hgg
            have hgn : gAt docs (i, k) = none := hgg
            have Hat := Lib.hid hat
            have HI3 := Lib.hid (show MkI w w.heap.size 0 docs (preP docs i (k + 1)) wr from by
              obtain ⟨⟨nn, M, h1, h2⟩, h3⟩ := hI2.out
              rw [hstep]
              refine ⟨⟨nn, M, ?_, ?_⟩, h3⟩
              · rw [List.length_append]
                omega
              · rw [preF_none hgn]
                exact h2)
            clear hat hgg hgn hg hstep
            go_wp2_with fail
            refine Hat.out.mono ?_
            rintro e w3 ⟨rfl, rfl⟩
            go_wp2_with fail
            go_roundw
            case rel => exact ⟨k + 1, by omega, by go_num, HI3⟩
            case measure => simp only [intOf]; omega
          | some g =>
            rw [hg] at hat hgg
            have hgs : gAt docs (i, k) = some (grS g).data.toList := hgg
            obtain ⟨⟨nn, M, hnn, hpm⟩, hgr⟩ := hI2.out
            have hsz : (grS g).size ≤ maxLen := by unfold maxLen; show 3 ≤ _; omega
            have hlook := hpm.map.look (grS g) hsz
            obtain ⟨v, hv⟩ : ∃ v, v = ((M (grS g).data.toList).map slV).getD (.slice none 0 0) := ⟨_, rfl⟩
            rw [← hv] at hlook
            obtain ⟨q, hq⟩ : ∃ q, q = (preF docs (preP docs i k) (grS g).data.toList).length := ⟨_, rfl⟩
            have hql : q ≤ 1000000 := by
              rw [hq]
              exact Nat.le_trans (List.length_filter_le _ _) hpl
            have hvo : wr.ownsRow w.heap.size 33 2 v q (plCs (preF docs (preP docs i k) (grS g).data.toList)) ∧ v.ownBlock = (M (grS g).data.toList).map (fun t => t.1) := by
              cases hM : M (grS g).data.toList with
              | none =>
                rw [hM] at hv
                rw [hv, hq, (hpm.none_ _).1 hM]
                exact ⟨World.ownsRow_nil _ _ _ _, rfl⟩
              | some s =>
                rw [hM] at hv
                rw [hv, hq]
                exact ⟨hpm.row _ s hM, rfl⟩
            obtain ⟨hvo, hvb⟩ := hvo
            have hG3 : Grow wr (wr.alloc (.cells #[.int .i64 (i : Int), .int .i64 (k : Int)] 33)) := Grow.alloc _ _
            have hown := own_below hvo hG3
            have hR1 := readsB2 (s := 2) (cs := [.int .i64 (i : Int), .int .i64 (k : Int)]) rfl (Blk.new wr 33 #[.int .i64 (i : Int), .int .i64 (k : Int)])
            obtain ⟨A9, c9, rfl⟩ := own_formM hvo
            have hz3 : w.heap.size ≤ (wr.alloc (.cells #[.int .i64 (i : Int), .int .i64 (k : Int)] 33)).heap.size := Nat.le_trans hgr.size hG3.size
            have HG3 := Lib.hid hG3
            have Hpm := Lib.hid hpm
            have Hgr := Lib.hid hgr
            have Hvb := Lib.hid hvb
            have Hat := Lib.hid hat
            have Hgs := Lib.hid hgs
            have Hq := Lib.hid hq
            have Hnn := Lib.hid hnn
            have Hstep := Lib.hid hstep
            have Hvo := Lib.hid hvo
            clear hat hgg hgs hg hpm hgr hvb hv hq hnn hI2 hstep hvo hG3
            go_wp2_with fail
            refine Hat.out.mono ?_
            rintro e w3 ⟨rfl, rfl⟩
            go_wp2_with (at_builtin; refine wpList_append_reads _ rfl (.tmp 35) (.tmp 39) rfl placeTy rfl hown rfl hR1 (by simp [Value.oneCell']) (by simp only [maxLen]; omega) (by omega) hz3 ?_; intro v' w6 hown2 hgr2 hat2; obtain ⟨t7, w7, hrun7, hpm7, hk7⟩ := PMap.put1 Hpm.out hsz (by unfold maxLen; have := Hnn.out; omega) Hq.out Hvb.out HG3.out hown2 hgr2 hat2)
            have HI3 := Lib.hid (show MkI w w.heap.size 0 docs (preP docs i (k + 1)) w7 from by
              rw [Hstep.out]
              refine ⟨⟨_, _, ?_, by rw [preF_some Hgs.out]; exact hpm7⟩, ?_⟩
              · rw [List.length_append]
                exact Nat.succ_le_succ Hnn.out
              · refine ((Keep.grow (S := fun j => (Value.slice A9 q c9).ownBlock = some j ∨ j = w.heap.size) (Hgr.out.trans HG3.out)).trans' (((Keep.grown hgr2).mono fun j hj => Or.inl (Or.inl hj)).trans' (hk7.mono fun j hj => Or.inl (Or.inr hj)))).below (fun j hj => ?_) (Nat.le_refl _)
                rcases hj with hj | hj
                · exact (Hvo.out.lt j hj).1
                · omega)
            clear hown hown2 hgr2 hat2 hR1 hrun7 hpm7 hk7 hlook
            go_roundw
            case rel => exact ⟨k + 1, by omega, by go_num, HI3⟩
            case measure => simp only [intOf]; omega
        · obtain rfl : k = n2 := by omega
          have d2 : decide ((k : Int) < (k : Int)) = false := decide_eq_false (by omega)
          have HI3 := Lib.hid (show MkI w w.heap.size 0 docs (preP docs (i + 1) 0) wr from by
            rw [preP_next Hb.out, Hbl.out]
            exact hI2.out)
          clear hI2
          go_wp2_with fail
          go_roundw
          case rel => exact ⟨i + 1, by omega, by go_num, HI3⟩
          case measure => simp only [intOf]; omega
    · obtain rfl : i = n := by omega
      have d1 : decide ((i : Int) < (i : Int)) = false := decide_eq_false (by omega)
      rw [← Hlen.out, preP_all] at hI
      have hplen : (allPl 0 docs).length ≤ 1000000 := by
        have h := HN.out docs.length 0 (by rw [Hlen.out]; exact Nat.le_refl _) (Or.inl rfl)
        rwa [preP_all] at h
      obtain ⟨⟨nn, M, hnn, hpm⟩, hgr⟩ := hI.out
      obtain ⟨F, hF⟩ : ∃ F, F = preF docs (allPl 0 docs) := ⟨_, rfl⟩
      rw [← hF] at hpm
      obtain ⟨mb, hmb⟩ : ∃ mb, mb = w.heap.size := ⟨_, rfl⟩
      rw [← hmb] at hpm
      obtain ⟨D, hown, hD⟩ := hpm.map
      have hsz : Maps.size D ≤ 1000000 := Nat.le_trans hown.size_le (Nat.le_trans hnn hplen)
      have hkl : (strKeys D).length ≤ 1000000 := by
        obtain ⟨es, rfl, -⟩ := hown.keysOf
        show (es.map fun p => strOf p.1).length ≤ _
        rw [List.length_map]
        exact hsz
      have Hkeys := Lib.hid (fun (x : List UInt8) (hx : x ∈ strKeys D) => key_some (M := M) hown (fun l hl => (hD l).2 hl) hx)
      have Hmem := Lib.hid (fun (l : List UInt8) (t : Sl) (h : M l = some t) => some_key hown ((hD l).1 t h).1)
      have Hnd := Lib.hid (strKeys_nodup hown)
      have Hown := Lib.hid hown
      have Hpm := Lib.hid hpm
      have Hgr := Lib.hid hgr
      have HF := Lib.hid hF
      have Hmb := Lib.hid hmb
      have Hkl := Lib.hid hkl
      have Hsz := Lib.hid hsz
      clear hown hpm hgr hF hI hD hplen hnn hkl hsz
      rw [← hmb]
      clear hmb
      go_wp2_with fail
      refine (callsIn_wide.1 (Try.maps_Keys_13 _ _)).mono ?_
      rintro e w3 ⟨rfl, rfl⟩
      go_wp2_with fail
      refine (callsIn_wide.1 (Try.slices_Sorted_keys_13 mb nn D Rs wo Hown.out (by have := Hsz.out; simp only [maxLen]; omega) (by have := Hsz.out; omega))).mono ?_
      rintro e w4 ⟨v, ss, rfl, hS, hrow, hnil, hb⟩
      obtain ⟨A1, c1, rfl, hnc1, hcm1, -⟩ := own_reads hrow
      obtain ⟨n1, hn1⟩ : ∃ n1, n1 = ss.length := ⟨_, rfl⟩
      obtain ⟨L, hL⟩ : ∃ L, L = ss.mergeSort (fun x y => decide (x ≤ y)) := ⟨_, rfl⟩
      obtain ⟨base9, hbase9⟩ : ∃ base9, base9 = (wo.alloc (.cells #[.map (some mb)] 38)).heap.size := ⟨_, rfl⟩
      have hLp : L.Perm (strKeys D) := by rw [hL]; exact (List.mergeSort_perm _ _).trans hS
      have hLlen : L.length = n1 := by rw [hL, hn1, List.length_mergeSort]
      have hn1m : n1 ≤ 1000000 := by
        rw [← hLlen, hLp.length_eq]
        exact Hkl.out
      have hgw : Grow wo w4 := (Grow.alloc _ _).trans hb
      rw [← hn1, ← hL, ← hbase9] at hrow
      rw [← hn1] at hnc1
      rw [← hn1]
      have H4 := Lib.hid (show PMap w4 w.heap.size mb nn M F from by rw [← Hmb.out]; exact Hpm.out.grow hgw)
      have Hg4 := Lib.hid (Hgr.out.trans hgw)
      have HLp := Lib.hid hLp
      have HLlen := Lib.hid hLlen
      have Hrow := Lib.hid hrow
      have Hz9 := Lib.hid (show w.heap.size ≤ base9 from by rw [hbase9]; exact Nat.le_trans Hgr.out.size (Grow.alloc _ _).size)
      clear hS hrow hnil hb hn1 hL hbase9 hLp hLlen hgw
      go_wp2_with fail
      go_loopw [2, 10, 47] (fun v2 v10 v47 wr => ∃ k : Nat, k ≤ n1 ∧ v47 = .int .i64 (k : Int) ∧ Hid (PMap wr w.heap.size mb nn M F) ∧ Hid (Grow w wr) ∧ Hid (wr.ownsRow base9 9 1 (.slice A1 n1 c1) n1 (L.map encStr)) ∧ Hid (wr.ownsRow w.heap.size 46 2 v2 k (poCs M (L.take k)))) (fun _ _ v47 _ => n1 - (intOf v47).toNat)
      case atStart => exact ⟨0, by omega, rfl, H4, Hg4, Hrow, Lib.hid (World.ownsRow_nil _ _ _ _)⟩
      case round =>
        obtain ⟨k, hk, rfl, hP, hG, hK, hO⟩ := hrel
        by_cases hlt : k < n1
        · have d1 : decide ((k : Int) < (n1 : Int)) = true := decide_eq_true (by omega)
          obtain ⟨x, hx⟩ : ∃ x, L[k]? = some x := ⟨_, List.getElem?_eq_getElem (by rw [HLlen.out]; exact hlt)⟩
          obtain ⟨⟨⟨tb, tq, tc⟩, hM⟩, hxl⟩ := Hkeys.out x (HLp.out.mem_iff.1 (List.mem_of_getElem? hx))
          obtain ⟨s, hs⟩ : ∃ s : ByteArray, s = ⟨x.toArray⟩ := ⟨_, rfl⟩
          have hss : s.size ≤ maxLen := by
            rw [hs]
            show x.toArray.size ≤ maxLen
            simpa using hxl
          have hlook := hP.out.map.look1 s hss (show s.data.toList = x by rw [hs]) hM
          obtain ⟨g1, cap1, e1, -, -, -, -⟩ := own_slice hK.out (by omega)
          injection e1 with e1 e2 e3
          subst e1
          have hcx : wr.cell? ⟨g1, k, none⟩ = some (.string s) := own_cell hK.out (by
            rw [List.getElem?_map, hx]
            show some (encStr x) = _
            rw [hs])
          have htk : L.take (k + 1) = L.take k ++ [x] := by rw [List.take_add_one, hx]; rfl
          have hpo : poCs M (L.take (k + 1)) = poCs M (L.take k) ++ [.string s, .slice (some ⟨tb, 0, none⟩) tq tc] := by
            rw [htk, poCs_snoc, hM, ← hs]
            rfl
          have hG3 : Grow wr (wr.alloc (.cells #[.string s, .slice (some ⟨tb, 0, none⟩) tq tc] 46)) := Grow.alloc _ _
          have hown := own_below hO.out hG3
          have hR1 := readsB2 (s := 2) (cs := [.string s, .slice (some ⟨tb, 0, none⟩) tq tc]) rfl (Blk.new wr 46 #[.string s, .slice (some ⟨tb, 0, none⟩) tq tc])
          obtain ⟨A9, c9, rfl⟩ := own_formM hO.out
          have hz3 : w.heap.size ≤ (wr.alloc (.cells #[.string s, .slice (some ⟨tb, 0, none⟩) tq tc] 46)).heap.size := Nat.le_trans hG.out.size hG3.size
          have HG3 := Lib.hid hG3
          have Hpo := Lib.hid hpo
          clear hx hM hxl hs e2 e3 htk hpo hG3 hss
          go_wp2_with (at_builtin; refine wpList_append_reads _ rfl (.tmp 51) (.tmp 57) rfl postTy rfl hown rfl hR1 (by simp [Value.oneCell']) (by simp only [maxLen]; omega) (by omega) hz3 ?_; intro v' w6 hown2 hgr2 hat2)
          have HI3 := Lib.hid (show Keep (fun j => (Value.slice A9 k c9).ownBlock = some j) wr w6 from (Keep.grow HG3.out).trans' (Keep.grown hgr2))
          have Hob := Lib.hid (show ∀ j, (Value.slice A9 k c9).ownBlock = some j → w.heap.size ≤ j ∧ ∃ cs, wr.heap[j]? = some (.cells cs 46 (0, 0)) from fun j hj => ⟨(hO.out.lt j hj).1, own_obj hO.out hj⟩)
          have HP6 := Lib.hid (show PMap w6 w.heap.size mb nn M F from hP.out.keep HI3.out (fun hj => by
            obtain ⟨-, cs, hc⟩ := Hob.out mb hj
            obtain ⟨es, cl, q⟩ := hP.out.map.obj
            rw [q] at hc
            cases hc) (fun j cs hj e => by
            obtain ⟨-, cs', hc⟩ := Hob.out j hj
            rw [hc] at e
            injection e with e
            injection e with e1 e2
            cases e2))
          have HK6 := Lib.hid (show w6.ownsRow base9 9 1 (.slice (some ⟨g1, 0, none⟩) n1 c1) n1 (L.map encStr) from HI3.out.own hK.out (fun j hj hs => by
            obtain ⟨-, cs', hc⟩ := Hob.out j hs
            obtain ⟨cs, e⟩ := own_obj hK.out hj
            rw [hc] at e
            injection e with e
            injection e with e1 e2
            cases e2))
          have HG6 := Lib.hid (show Grow w w6 from ((Keep.grow (S := fun j => (Value.slice A9 k c9).ownBlock = some j) hG.out).trans' HI3.out).below (fun j hj => (Hob.out j hj).1) (Nat.le_refl _))
          have HO6 := Lib.hid (show w6.ownsRow w.heap.size 46 2 v' (k + 1) (poCs M (L.take (k + 1))) from by rw [Hpo.out]; exact hown2)
          clear hown hown2 hgr2 hat2 hR1 hlook hcx
          go_roundw
          case rel => exact ⟨k + 1, by omega, by go_num, HP6, HG6, HK6, HO6⟩
          case measure => simp only [intOf]; omega
        · obtain rfl : k = n1 := by omega
          have d1 : decide ((k : Int) < (k : Int)) = false := decide_eq_false (by omega)
          obtain ⟨A9, c9, rfl, hnc9, hcm9, hread⟩ := own_reads hO.out
          rw [← HLlen.out, List.take_length, HLlen.out] at hread
          have Hread := Lib.hid hread
          clear hread
          go_wp2_with fail
          go_ret
          refine ⟨A9, k, c9, L.map fun x => (⟨x.toArray⟩, F x), rfl, hP.out.posts (fun x hx => ?_) Hread.out, hG.out, ?_, ?_, ?_, by omega⟩
          · obtain ⟨⟨t, ht⟩, -⟩ := Hkeys.out x (HLp.out.mem_iff.1 hx)
            rw [ht]
            exact fun h => by cases h
          · rw [List.map_map]
            refine List.pairwise_map.2 ((HLp.out.nodup_iff.2 Hnd.out).imp fun {a b} hne e => hne ?_)
            have e : (⟨a.toArray⟩ : ByteArray) = ⟨b.toArray⟩ := e
            simpa using e
          · intro p hp
            obtain ⟨x, -, rfl⟩ := List.mem_map.1 hp
            rw [HF.out]
            rfl
          · intro g hg
            have hM : M g ≠ none := fun h => hg (by
              have h2 := (hP.out.none_ g).1 h
              rw [HF.out] at h2
              exact h2)
            cases ht : M g with
            | none => exact absurd ht hM
            | some t => exact ⟨_, List.mem_map.2 ⟨g, HLp.out.mem_iff.2 (Hmem.out g t ht), rfl⟩, rfl⟩
end Go.Proofs.Ytamdejidkgnaeaa
