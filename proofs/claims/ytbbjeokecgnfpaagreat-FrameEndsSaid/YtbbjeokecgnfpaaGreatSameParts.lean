/-
  The walks of mudlarkkit's SamePart and SameParts.
-/
import Derived.Deep.MidRow
import Derived.Deep.DeepCutAuto
import Derived.Deep.CutRange
import Derived.Test.YtbbjeokecgnfpaaGreatBaseB
import Derived.Test.YtbbjeokecgnfpaaGreatBaseA
import Derived.Test.YtbbjeokecgnfpaaGreatBaseC
namespace Go.Proofs.YtbbjeokecgnfpaaGreat
open Go.RowKit

def samePartB (a b : PartM) : Bool := (a.tag == b.tag) && sameL a.b b.b
set_option maxRecDepth 100000 in
set_option maxHeartbeats 1000000 in
theorem SamePart_any (w : World) (B : Nat) (a b : PartM) (A : Option Addr) (n c : Nat) (A2 : Option Addr) (n2 c2 : Nat) (hR : BytesAt w B A n a.b) (hR2 : BytesAt w B A2 n2 b.b) (hB : B ≤ w.heap.size) (hn : n ≤ maxLen) (hn2 : n2 ≤ maxLen) (r : Bool) (Hr : Hid (r = samePartB a b)) :
    Calls Tryz.prog 34 #[.agg #[.int .u8 (a.tag.toNat : Int), .slice A n c], .agg #[.int .u8 (b.tag.toNat : Int), .slice A2 n2 c2]] w fun e w' => e = .returned (.bool r) ∧ Grow w w' := by
  have hG : Grow w ((w.alloc (.cells #[.int .u8 (a.tag.toNat : Int), .slice A n c] 45)).alloc (.cells #[.int .u8 (b.tag.toNat : Int), .slice A2 n2 c2] 45)) := (Grow.alloc _ _).trans (Grow.alloc _ _)
  have h1 : BytesAt ((w.alloc (.cells #[.int .u8 (a.tag.toNat : Int), .slice A n c] 45)).alloc (.cells #[.int .u8 (b.tag.toNat : Int), .slice A2 n2 c2] 45)) B A n a.b := ReadsAt.keep hR fun p hp => hG.cell (Nat.lt_of_lt_of_le hp hB)
  have h2 : BytesAt ((w.alloc (.cells #[.int .u8 (a.tag.toNat : Int), .slice A n c] 45)).alloc (.cells #[.int .u8 (b.tag.toNat : Int), .slice A2 n2 c2] 45)) B A2 n2 b.b := ReadsAt.keep hR2 fun p hp => hG.cell (Nat.lt_of_lt_of_le hp hB)
  by_cases ht : a.tag = b.tag
  · have d1 : ((a.tag.toNat : Int) == (b.tag.toNat : Int)) = true := by rw [ht]; simp
    have Hr2 := Lib.hid (show r = sameL a.b b.b by rw [Hr.out, samePartB, ht]; simp)
    have H1 := Lib.hid h1
    have H2 := Lib.hid h2
    clear ht h1 h2 hR hR2
    go_enter Tryz.func34, Tryz.ntmps34
    go_wp2_with (go_at_call 11; refine (SameBytes_any _ B B A A2 n c n2 c2 a.b b.b H1.out H2.out hn hn2).mono ?_; rintro e w3 ⟨rfl, q, rfl⟩)
    go_ret
    exact ⟨ret_bool Hr2.out.symm, hG.trans (Grow.drewN _ _)⟩
  · have d1 : ((a.tag.toNat : Int) == (b.tag.toNat : Int)) = false := by rw [beq_eq_false_iff_ne]; intro h; exact ht (UInt8.toNat_inj.1 (by omega))
    have Hr2 := Lib.hid (show r = false by rw [Hr.out, samePartB, beq_eq_false_iff_ne.2 ht, Bool.false_and])
    clear ht h1 h2 hR hR2
    go_enter Tryz.func34, Tryz.ntmps34
    go_wp2
    go_ret
    exact ⟨ret_bool Hr2.out.symm, hG⟩

/-- parts that are the same -/
def samePartsB : List PartM → List PartM → Bool
  | [], [] => true
  | a :: l, b :: m => samePartB a b && samePartsB l m
  | _, _ => false
theorem samePartsB_len : ∀ {l m : List PartM}, l.length ≠ m.length → samePartsB l m = false
  | [], [], h => absurd rfl h
  | [], _ :: _, _ => rfl
  | _ :: _, [], _ => rfl
  | a :: l, b :: m, h => by
    rw [samePartsB, samePartsB_len (l := l) (m := m) (fun e => h (by simp [e])), Bool.and_false]
theorem samePartsB_drop {l m : List PartM} {k : Nat} {a b : PartM} (h1 : l[k]? = some a) (h2 : m[k]? = some b) : samePartsB (l.drop k) (m.drop k) = (samePartB a b && samePartsB (l.drop (k + 1)) (m.drop (k + 1))) := by
  obtain ⟨p1, q1⟩ := List.getElem?_eq_some_iff.1 h1
  obtain ⟨p2, q2⟩ := List.getElem?_eq_some_iff.1 h2
  rw [List.drop_eq_getElem_cons p1, List.drop_eq_getElem_cons p2, q1, q2, samePartsB]

set_option maxRecDepth 100000 in
set_option maxHeartbeats 4000000 in
theorem SameParts_any (w : World) (A : Option Addr) (n c : Nat) (A2 : Option Addr) (n2 c2 : Nat) (l m : List PartM) (hT : PartsAt w w.heap.size A n l) (hT2 : PartsAt w w.heap.size A2 n2 m) (hn : n ≤ 4398046510976) (hn2 : n2 ≤ 4398046510976) :
    Calls Tryz.prog 18 #[.slice A n c, .slice A2 n2 c2] w fun e w' => e = .returned (.bool (samePartsB l m)) ∧ Grow w w' := by
  have hl1 := hT.len
  have hl2 := hT2.len
  by_cases hnn : n = n2
  · subst hnn
    have Hl1 := Lib.hid hl1
    have Hl2 := Lib.hid hl2
    have hnb : ((n : Int) == (n : Int)) = true := by simp
    clear hl1 hl2
    go_enter Tryz.func18, Tryz.ntmps18
    go_wp2
    go_loopw [5] (fun v5 wr => ∃ k : Nat, k ≤ n ∧ v5 = .int .i64 (k : Int) ∧ Hid (samePartsB l m = samePartsB (l.drop k) (m.drop k)) ∧ Hid (Grow w wr)) (fun v5 _ => n - (intOf v5).toNat)
    case atStart => exact ⟨0, by omega, rfl, by simp [Hid], Grow.refl w⟩
    case round =>
      obtain ⟨k, hk, rfl, hs, hg⟩ := hrel
      by_cases hlt : k < n
      · obtain ⟨a, ha⟩ : ∃ a, l[k]? = some a := ⟨_, List.getElem?_eq_getElem (by rw [Hl1.out]; exact hlt)⟩
        obtain ⟨b, hb⟩ : ∃ b, m[k]? = some b := ⟨_, List.getElem?_eq_getElem (by rw [Hl2.out]; exact hlt)⟩
        have hgz := hg.out.size
        obtain ⟨b1, off1, A1, n1, c1, rfl, hb1, hc0, hc1, hnc1, -, hcm1, hr1⟩ := (hT.below hg.out).at_ ha
        obtain ⟨b2, off2, A2', n2', c2', rfl, hb2, hd0, hd1, hnc2, -, hcm2, hr2⟩ := (hT2.below hg.out).at_ hb
        have Hm1 := Lib.hid (part_range hc0 hc1)
        have Hm2 := Lib.hid (part_range hd0 hd1)
        have hz1 : b1 < wr.heap.size := by omega
        have hz2 : b2 < wr.heap.size := by omega
        obtain ⟨r, hr⟩ : ∃ r, r = samePartB a b := ⟨_, rfl⟩
        have Hr := Lib.hid hr
        have Hdr := Lib.hid (show samePartsB l m = (r && samePartsB (l.drop (k + 1)) (m.drop (k + 1))) by rw [hs.out, samePartsB_drop ha hb, hr])
        have Hr1 := Lib.hid (show ∀ W, Grow wr W → BytesAt W w.heap.size A1 n1 a.b from fun W h => ReadsAt.keep hr1 fun p hp => h.cell (Nat.lt_of_lt_of_le hp hgz))
        have Hr2 := Lib.hid (show ∀ W, Grow wr W → BytesAt W w.heap.size A2' n2' b.b from fun W h => ReadsAt.keep hr2 fun p hp => h.cell (Nat.lt_of_lt_of_le hp hgz))
        clear ha hb hc0 hc1 hd0 hd1 hr hr1 hr2 hs
        go_upto_region 6 with (fail)
        go_cut [26] from 17 to 26 (fun v26 wx => v26 = .bool (!r) ∧ Grow wr wx)
        case first Jx Kx hJx hMx =>
          refine wp_region_facts (by kernel_rfl) (Facts [.is (.slice (some ⟨b1, off1, none⟩) n c), .is (.int .i64 (k : Int)), .is (.pointer (some ⟨b1, off1 + k * 2, none⟩)), .is (.agg #[.int .u8 (a.tag.toNat : Int), .slice A1 n1 c1]), .is (.slice (some ⟨b2, off2, none⟩) n c2), .is (.int .i64 (k : Int)), .is (.pointer (some ⟨b2, off2 + k * 2, none⟩)), .is (.agg #[.int .u8 (b.tag.toNat : Int), .slice A2' n2' c2']), .is (.bool r), .is (.bool (!r))]) (Facts.mono _) (by kernel_rfl) ?_ ?_
          · refine ⟨?_, ?_, ?_, ?_, ?_, ?_, ?_, ?_, ?_, ?_, trivial⟩
            · refine stepOf_wanted (fun _ _ _ _ _ => wanted_none rfl) ?_
              intro us w3 a' ha hg hd K hK
              have q0 : a'.tmps[0]? = some (.slice (some ⟨b1, off1, none⟩) n c) := by rw [ha.out]; kernel_rfl
              exact step_value (w2 := w3) (by go_simp) (hK _ _ (Grow.refl _) rfl)
            · refine stepOf_wanted (fun _ _ _ _ _ => wanted_none rfl) ?_
              intro us w3 a' ha hg hd K hK
              have q5 : a'.tmps[5]? = some (.int .i64 (k : Int)) := by rw [ha.out]; kernel_rfl
              exact step_value (w2 := w3) (by go_simp) (hK _ _ (Grow.refl _) rfl)
            · refine stepOf_wanted (fun _ _ _ _ _ => wanted_none rfl) ?_
              intro us w3 a' ha hg hd K hK
              obtain ⟨d0, d1, _⟩ := hd
              have q17 : a'.tmps[17]? = some (us 0) := by rw [ha.out]; kernel_rfl
              rw [show us 0 = .slice (some ⟨b1, off1, none⟩) n c from d0] at q17
              have q18 : a'.tmps[18]? = some (us 1) := by rw [ha.out]; kernel_rfl
              rw [show us 1 = .int .i64 (k : Int) from d1] at q18
              refine step_value (v := .pointer (some ⟨b1, off1 + k * 2, none⟩)) (w2 := w3) ?_ (hK _ _ (Grow.refl _) rfl)
              go_simp
              (try (intro h; omega))
            · refine stepOf_wanted (fun _ _ _ _ _ => wanted_none rfl) ?_
              intro us w3 a' ha hg hd K hK
              obtain ⟨d2, _⟩ := hd
              have q19 : a'.tmps[19]? = some (us 2) := by rw [ha.out]; kernel_rfl
              rw [show us 2 = .pointer (some ⟨b1, off1 + k * 2, none⟩) from d2] at q19
              exact wp_load_mid 45 (.tmp 19) rfl b1 (off1 + k * 2) (eval_tmp q19) _ _ (fun j v hj => (hg.cell (p := ⟨b1, off1 + k * 2 + j, none⟩) hz1).trans (Hm1.out j v hj)) Tryz.underlying45 rfl (by kernel_rfl) (hK _ _ (Grow.refl _) rfl)
            · refine stepOf_wanted (fun _ _ _ _ _ => wanted_none rfl) ?_
              intro us w3 a' ha hg hd K hK
              have q1 : a'.tmps[1]? = some (.slice (some ⟨b2, off2, none⟩) n c2) := by rw [ha.out]; kernel_rfl
              exact step_value (w2 := w3) (by go_simp) (hK _ _ (Grow.refl _) rfl)
            · refine stepOf_wanted (fun _ _ _ _ _ => wanted_none rfl) ?_
              intro us w3 a' ha hg hd K hK
              have q5 : a'.tmps[5]? = some (.int .i64 (k : Int)) := by rw [ha.out]; kernel_rfl
              exact step_value (w2 := w3) (by go_simp) (hK _ _ (Grow.refl _) rfl)
            · refine stepOf_wanted (fun _ _ _ _ _ => wanted_none rfl) ?_
              intro us w3 a' ha hg hd K hK
              obtain ⟨d4, d5, _⟩ := hd
              have q21 : a'.tmps[21]? = some (us 4) := by rw [ha.out]; kernel_rfl
              rw [show us 4 = .slice (some ⟨b2, off2, none⟩) n c2 from d4] at q21
              have q22 : a'.tmps[22]? = some (us 5) := by rw [ha.out]; kernel_rfl
              rw [show us 5 = .int .i64 (k : Int) from d5] at q22
              refine step_value (v := .pointer (some ⟨b2, off2 + k * 2, none⟩)) (w2 := w3) ?_ (hK _ _ (Grow.refl _) rfl)
              go_simp
              (try (intro h; omega))
            · refine stepOf_wanted (fun _ _ _ _ _ => wanted_none rfl) ?_
              intro us w3 a' ha hg hd K hK
              obtain ⟨d6, _⟩ := hd
              have q23 : a'.tmps[23]? = some (us 6) := by rw [ha.out]; kernel_rfl
              rw [show us 6 = .pointer (some ⟨b2, off2 + k * 2, none⟩) from d6] at q23
              exact wp_load_mid 45 (.tmp 23) rfl b2 (off2 + k * 2) (eval_tmp q23) _ _ (fun j v hj => (hg.cell (p := ⟨b2, off2 + k * 2 + j, none⟩) hz2).trans (Hm2.out j v hj)) Tryz.underlying45 rfl (by kernel_rfl) (hK _ _ (Grow.refl _) rfl)
            · refine stepOf_wanted (fun _ _ _ _ _ => wanted_none rfl) ?_
              intro us w3 a' ha hg hd K hK
              obtain ⟨d3, d7, _⟩ := hd
              have q20 : a'.tmps[20]? = some (us 3) := by rw [ha.out]; kernel_rfl
              rw [show us 3 = .agg #[.int .u8 (a.tag.toNat : Int), .slice A1 n1 c1] from d3] at q20
              have q24 : a'.tmps[24]? = some (us 7) := by rw [ha.out]; kernel_rfl
              rw [show us 7 = .agg #[.int .u8 (b.tag.toNat : Int), .slice A2' n2' c2'] from d7] at q24
              refine step_call (f := 34) (args := #[.agg #[.int .u8 (a.tag.toNat : Int), .slice A1 n1 c1], .agg #[.int .u8 (b.tag.toNat : Int), .slice A2' n2' c2']]) (by go_simp) ?_
              refine (SamePart_any w3 w.heap.size a b A1 n1 c1 A2' n2' c2' (Hr1.out w3 hg) (Hr2.out w3 hg) (Nat.le_trans hgz hg.size) (by simp only [maxLen]; omega) (by simp only [maxLen]; omega) r Hr).mono ?_
              rintro e w4 ⟨rfl, hg4⟩
              exact ⟨_, rfl, hK _ _ hg4 rfl⟩
            · refine stepOf_wanted (fun _ _ _ _ _ => wanted_none rfl) ?_
              intro us w3 a' ha hg hd K hK
              obtain ⟨d8, _⟩ := hd
              have q25 : a'.tmps[25]? = some (us 8) := by rw [ha.out]; kernel_rfl
              rw [show us 8 = .bool r from d8] at q25
              refine step_value (v := .bool (!r)) (w2 := w3) ?_ (hK _ _ (Grow.refl _) rfl)
              go_simp
          · intro us w3 hg3 hf
            have h9 : us 9 = .bool (!r) := hf 9 (by decide)
            exact hMx _ _ (Met.intro (hJx _ _ ⟨us 0, us 1, us 2, us 3, us 4, us 5, us 6, us 7, us 8, us 9, ⟨h9, hg3⟩, by kernel_rfl⟩))
        case rest =>
          obtain ⟨rfl, hgx⟩ := hcut
          have HG := Lib.hid (hg.out.trans hgx)
          clear hgx hg
          cases r with
          | true =>
            have Hs2 := Lib.hid (show samePartsB l m = samePartsB (l.drop (k + 1)) (m.drop (k + 1)) by rw [Hdr.out, Bool.true_and])
            go_wp2
            go_roundw
            case rel => exact ⟨k + 1, by omega, by go_num, Hs2, HG⟩
            case measure => simp [intOf]; omega
          | false =>
            have Hs2 := Lib.hid (show samePartsB l m = false by rw [Hdr.out, Bool.false_and])
            go_wp2
            go_ret
            exact ⟨ret_bool Hs2.out.symm, HG.out⟩
      · obtain rfl : k = n := by omega
        have hfin := Lib.hid (show samePartsB l m = true by rw [hs.out, List.drop_eq_nil_iff.2 (by rw [Hl1.out]; exact Nat.le_refl _), List.drop_eq_nil_iff.2 (by rw [Hl2.out]; exact Nat.le_refl _)]; rfl)
        go_wp2
        go_ret
        exact ⟨ret_bool hfin.out.symm, hg.out⟩
  · have hnb : ((n : Int) == (n2 : Int)) = false := by rw [beq_eq_false_iff_ne]; omega
    have hfin := Lib.hid (samePartsB_len (l := l) (m := m) (by rw [hl1, hl2]; exact hnn))
    clear hnn hl1 hl2
    go_enter Tryz.func18, Tryz.ntmps18
    go_wp2
    go_ret
    exact ⟨ret_bool hfin.out.symm, Grow.refl w⟩
end Go.Proofs.YtbbjeokecgnfpaaGreat
