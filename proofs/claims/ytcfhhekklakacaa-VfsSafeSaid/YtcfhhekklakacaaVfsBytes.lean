/-
  The walk of a disk's bytes: all files' bytes together, whatever order the map is gone through in.
-/
import Derived.Test.YtcfhhekklakacaaVfsSmall
namespace Go.Proofs.Ytcfhhekklakacaa
open Go.RowKit Go.Maps
set_option linter.unusedVariables false
/-- all bytes that there ever were -/
def sumL (f : Nat → Nat) (l : List Nat) : Nat := (l.map f).sum
theorem sumL_cons (f : Nat → Nat) (a : Nat) (l : List Nat) : sumL f (a :: l) = f a + sumL f l := by simp [sumL]
theorem sumL_erase (f : Nat → Nat) : ∀ {l : List Nat} {a : Nat}, a ∈ l → sumL f l = f a + sumL f (l.erase a)
  | [], a, h => by simp at h
  | b :: l, a, h => by
    by_cases e : b = a
    · subst e
      rw [List.erase_cons_head, sumL_cons]
    · rw [List.erase_cons_tail (by simpa using e), sumL_cons, sumL_cons]
      have := sumL_erase f (l := l) (a := a) (by
        rcases List.mem_cons.1 h with h1 | h1
        · exact absurd h1.symm e
        · exact h1)
      omega
theorem sumL_le (f : Nat → Nat) : ∀ {d l : List Nat}, d.Nodup → (∀ a ∈ d, a ∈ l) → sumL f d ≤ sumL f l
  | [], l, _, _ => by simp [sumL]
  | a :: d, l, hn, h => by
    obtain ⟨h1, h2⟩ := List.nodup_cons.1 hn
    rw [sumL_cons, sumL_erase f (h a (by simp))]
    have := sumL_le f (d := d) (l := l.erase a) h2 fun x hx => (List.mem_erase_of_ne (fun e => h1 (by rw [← e]; exact hx))).2 (h x (by simp [hx]))
    omega
def lenF (S : St) (id : Nat) : Nat := (S.con id).1.length
def St.total (S : St) : Nat := sumL (lenF S) S.ids
theorem lit_ne {x l : List UInt8} : (Lit.string x).sameKey (Lit.string l) = decide (x = l) := by
  by_cases e : x = l
  · subst e
    rw [decide_eq_true rfl]
    exact WideAt.sameKey_self trivial
  · rw [decide_eq_false e]
    exact Maps.sameKey_ne fun h => e (by injection h)
set_option maxRecDepth 100000 in
set_option maxHeartbeats 2000000 in
theorem vbytes_any (w : World) (g base : Nat) (room : Int) (S : St) (M : FM) (mb : Nat) (uv : Value) (fs : List Value) (t c : Int) (rv : Nat → Value) (h : VX w g base room S M mb uv fs t c rv) (hrefs : ∀ l id, M l = some id → id ∈ S.ids) (hinj : ∀ l l' id, M l = some id → M l' = some id → l = l') (htot : S.total ≤ 1000000000000) :
    Calls Try.prog 27 #[pg g] w fun e w' => ∃ r : Nat, e = .returned (.int .i64 (r : Int)) ∧ r ≤ S.total ∧ Grow w w' := by
  have h1 := h.disk.cell 1
  obtain ⟨D, hown, hD⟩ := h.map
  have HD := Lib.hid hD
  have H := Lib.hid h
  have Hrefs := Lib.hid hrefs
  have Hinj := Lib.hid hinj
  have Htot := Lib.hid htot
  clear hD h hrefs hinj htot
  go_enter Try.func27, Try.ntmps27
  go_wp2_with (at_range; refine wpList_range_own _ rfl _ 46 rfl 9 53 str_law Try.underlying46 Rf mb S.n D rfl hown ?_; intro w0 hrg0 hg0 hs0)
  go_frame
  go_loopw [2] (fun v2 wr => ∃ (left : Lit → Bool) (cnt : Nat) (done : List Nat), v2 = .int .i64 ((sumL (lenF S) done : Nat) : Int) ∧ wr.ranges Try.prog 9 Rf mb w.heap.size S.n D left cnt ∧ done.Nodup ∧ Hid (∀ id ∈ done, ∃ l, M l = some id ∧ left (.string l) = false) ∧ Hid (Grow w wr))
    (fun _ wr => wr.rangeLeft mb w.heap.size)
  case atStart => exact ⟨_, _, [], rfl, hrg0, List.nodup_nil, fun id h => by (simp at h), ⟨hg0.os, hg0.tape, hg0.output, hg0.size, fun k hk => hg0.block k hk (by simp)⟩⟩
  case round =>
    clear hrg0 hg0 hs0
    obtain ⟨left, cnt, done, rfl, hrg, hnd, hdn, hg⟩ := hrel
    have hle : sumL (lenF S) done ≤ S.total := sumL_le _ hnd fun id hid => by
      obtain ⟨l, hl, -⟩ := hdn.out id hid
      exact Hrefs.out l id hl
    have hle2 := Htot.out
    go_wp2_with (at_next; refine wpList_next_ranges _ rfl _ rfl 9 str_law Rf Value.string pf (fun key kl hkey => by obtain ⟨s, rfl, -, -⟩ := WideMaps.string_of_keyOf Try.underlying9 hkey; exact ⟨s, rfl⟩) (fun v y hv => by rcases Rf_inv hv with ⟨b, rfl, -⟩ | ⟨rfl, -⟩; exact ⟨some b, rfl⟩; exact ⟨none, rfl⟩) mb w.heap.size S.n D left cnt rfl hrg ?_ ?_)
    · intro _ hl0
      have Hle := Lib.hid hle
      obtain ⟨z, hz⟩ : ∃ z, z = sumL (lenF S) done := ⟨_, rfl⟩
      rw [← hz] at Hle ⊢
      clear hz hle
      go_wp2
      go_ret
      exact ⟨z, rfl, Hle.out, hg.out⟩
    · intro x c kl y1 y2 w1 cnt1 hkey hlx hv hat hrg1 hlt hg1 hs1 hen
      obtain ⟨s', es', hkl, hss⟩ := WideMaps.string_of_keyOf Try.underlying9 hkey
      injection es' with es'
      subst es'
      subst hkl
      have hhas : Maps.has D (.string x.data.toList) = true := Maps.has_true_of_atKey hat
      obtain ⟨id, hid⟩ : ∃ id, M x.data.toList = some id := by
        cases hM : M x.data.toList with
        | none =>
          rw [(HD.out x.data.toList).2 hM] at hhas
          cases hhas
        | some id => exact ⟨id, rfl⟩
      have hc : c = some id := by
        have h2 := ((HD.out x.data.toList).1 id hid).2 (.lit (.int .i64 0))
        rw [hat] at h2
        cases c with
        | none =>
          rcases Rf_inv hv with ⟨b, e, -⟩ | ⟨-, e⟩
          · cases e
          · injection e with e _
            rw [e] at h2
            simp only [DataW.lit.injEq, Lit.int.injEq, true_and] at h2
            omega
        | some b =>
          rcases Rf_inv hv with ⟨b', e, e2⟩ | ⟨e, -⟩
          · injection e with e
            injection e with e
            injection e with e _ _
            injection e2 with e2 _
            rw [e2] at h2
            simp only [DataW.lit.injEq, Lit.int.injEq, true_and] at h2
            rw [e, show b' = id by omega]
          · cases e
      subst hc
      have hidm := Hrefs.out _ id hid
      have hnotin : id ∉ done := fun hm => by
        obtain ⟨l, hl, hlf⟩ := hdn.out id hm
        have e := Hinj.out _ _ id hl hid
        rw [e, hlx] at hlf
        cases hlf
      have hgw1 : Grow w w1 := Below.trans hg.out ⟨hg1.os, hg1.tape, hg1.output, hg1.size, fun k hk => hg1.block k (Nat.lt_of_lt_of_le hk hg.out.size) (by simp; omega)⟩
      have hnd2 : (id :: done).Nodup := List.nodup_cons.2 ⟨hnotin, hnd⟩
      have Hdn2 := Lib.hid (show ∀ id' ∈ id :: done, ∃ l, M l = some id' ∧ (fun z => left z && !z.sameKey (.string x.data.toList)) (.string l) = false from fun id' hm => by
        rcases List.mem_cons.1 hm with rfl | hm
        · exact ⟨_, hid, by simp [lit_ne]⟩
        · obtain ⟨l, hl, hlf⟩ := hdn.out id' hm
          exact ⟨l, hl, by simp [hlf]⟩)
      have hle3 : sumL (lenF S) (id :: done) ≤ S.total := sumL_le _ hnd2 fun id' hm => by
        obtain ⟨l, hl, -⟩ := Hdn2.out id' hm
        exact Hrefs.out l id' hl
      obtain ⟨d, hfb⟩ := (H.out.file id hidm).2
      have hfb1 := hfb.below hgw1 hfb.lt
      obtain ⟨A1, c1, e1, -, -, -⟩ := own_reads (H.out.row id hidm)
      have hcell := hfb1.cell 0
      rw [e1] at hcell
      rw [sumL_cons] at hle3
      obtain ⟨n1, hn1⟩ : ∃ n1, n1 = (S.con id).1.length := ⟨_, rfl⟩
      rw [show lenF S id = n1 from hn1.symm] at hle3
      rw [← hn1] at hcell
      have Hsum := Lib.hid (show (sumL (lenF S) done : Nat) + n1 = sumL (lenF S) (id :: done) by rw [sumL_cons, show lenF S id = n1 from hn1.symm]; omega)
      obtain ⟨z, hz⟩ : ∃ z, z = sumL (lenF S) done := ⟨_, rfl⟩
      rw [← hz] at Hsum hle3 ⊢
      have Hgw1 := Lib.hid hgw1
      have Hnd2 := Lib.hid hnd2
      have Hrg1 := Lib.hid hrg1
      have Hlt := Lib.hid hlt
      clear hz hn1 e1 hfb1 hfb hle hnd2 hgw1 hnotin hid hhas hat hv hkey hlx hrg1 hlt hg1 hs1 hnd hdn hg hidm
      have epf : pf (some id) = .pointer (some ⟨id, 0, none⟩) := rfl
      rw [epf] at hen ⊢
      clear epf
      go_wp2
      go_roundw
      case rel => exact ⟨_, cnt1, id :: done, by rw [← Hsum.out]; go_num, Hrg1.out, Hnd2.out, Hdn2, Hgw1⟩
      case measure => rw [Hrg1.out.left_eq, hrg.left_eq]; exact Hlt.out
end Go.Proofs.Ytcfhhekklakacaa
