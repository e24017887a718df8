/-
  The walks of mudlarklaw02's great and right: whether things are too many to be gone through, whether a thing can be put.
-/
import Derived.Outline
import Derived.Lib.Hide
import Derived.BigQuiet
import Derived.Deep.QuietTactic
import Derived.Test.YtcjbeaohmgfgoaaThing
import Derived.Test.YtcjbeaohmgfgoaaQuiet
import Derived.Test.YtcjbeaohmgfgoaaWireMath
namespace Go.Proofs.Ytcjbeaohmgfgoaa
open Go.RowKit WireM

def thingSize (t : ThingM) : Nat := t.b.length + t.row.length
def thingsTot : List ThingM → Nat
  | [] => 0
  | t :: r => thingSize t + thingsTot r
theorem thingsTot_append (a b : List ThingM) : thingsTot (a ++ b) = thingsTot a + thingsTot b := by
  induction a with
  | nil => simp [thingsTot]
  | cons x a ih => simp only [List.cons_append, thingsTot, ih]; omega
theorem thingsTot_succ {ts : List ThingM} {k : Nat} {t : ThingM} (h : ts[k]? = some t) : thingsTot (ts.take (k + 1)) = thingsTot (ts.take k) + thingSize t := by
  rw [List.take_add_one, h, thingsTot_append]
  simp [thingsTot]
theorem thingsTot_le (ts : List ThingM) (k : Nat) : thingsTot (ts.take k) ≤ thingsTot ts := by
  have h := thingsTot_append (ts.take k) (ts.drop k)
  rw [List.take_append_drop] at h
  omega
theorem thingSize_le {ts : List ThingM} {t : ThingM} (h : t ∈ ts) : thingSize t ≤ thingsTot ts := by
  induction ts with
  | nil => cases h
  | cons x r ih =>
    rw [thingsTot]
    rcases List.mem_cons.1 h with rfl | h
    · omega
    · have := ih h; omega
def greatB (ts : List ThingM) (m : Nat) : Bool := decide (4000 < ts.length + m + thingsTot ts)

set_option maxRecDepth 100000 in
set_option maxHeartbeats 2000000 in
theorem great_any (w : World) (B : Nat) (A A2 : Option Addr) (n c n2 c2 : Nat) (ts : List ThingM) (hT : ThingsAt w B A n ts) (hn : n ≤ 1954687338269) (hn2 : n2 ≤ 140737488351232) :
    Calls Try.prog 24 #[.slice A n c, .slice A2 n2 c2] w fun e w' => e = .returned (.bool (greatB ts n2)) ∧ ∃ q, w.drewN q = w' := by
  have hlen := hT.len
  obtain ⟨S, hS⟩ : ∃ S : Nat → Nat, S = fun k => n + n2 + thingsTot (ts.take k) := ⟨_, rfl⟩
  have hS0 : n + n2 = S 0 := by rw [hS]; simp [thingsTot]
  have hSn : Hid (S n = n + n2 + thingsTot ts) := by rw [hS, ← hlen]; simp [Hid]
  have hSle : ∀ k, Hid (S k ≤ S n) := fun k => by
    have h1 := hSn.out
    have h2 := thingsTot_le ts k
    have h3 : S k = n + n2 + thingsTot (ts.take k) := by rw [hS]
    show S k ≤ S n
    omega
  have hSs : ∀ k t, ts[k]? = some t → Hid (S (k + 1) = S k + t.b.length + t.row.length) := fun k t h => by
    have h1 : S (k + 1) = n + n2 + thingsTot (ts.take (k + 1)) := by rw [hS]
    have h3 : S k = n + n2 + thingsTot (ts.take k) := by rw [hS]
    have h4 := thingsTot_succ h
    rw [thingSize] at h4
    show S (k + 1) = _
    omega
  have hg : Hid (greatB ts n2 = decide (4000 < S n)) := by
    show greatB ts n2 = _
    rw [hSn.out, greatB, hlen]
  have Hlen := Lib.hid hlen
  have HS0 := Lib.hid hS0
  clear hS hlen hS0
  go_enter Try.func24, Try.ntmps24
  go_wp2
  go_loopw [5, 6] (fun v5 v6 wr => ∃ k q : Nat, k ≤ n ∧ v5 = .int .i64 (S k : Nat) ∧ v6 = .int .i64 (k : Int) ∧ S k ≤ 281474976710656 ∧ w.drewN q = wr) (fun _ v6 _ => n - (intOf v6).toNat)
  case atStart => exact ⟨0, 0, by omega, by rw [← HS0.out]; go_num, rfl, by have := HS0.out; omega, rfl⟩
  case round =>
    obtain ⟨k, q, hk, rfl, rfl, hsb, rfl⟩ := hrel
    by_cases hlt : k < n
    · by_cases hs : S k ≤ 4000
      · obtain ⟨t, ht⟩ : ∃ t, ts[k]? = some t := ⟨_, List.getElem?_eq_getElem (by rw [Hlen.out]; exact hlt)⟩
        have HSs := hSs k t ht
        obtain ⟨b, off, A1, n1, c1, A3, n3, c3, rfl, hb, -, -, -, hc3, hc4, hcs, hb1, hb2⟩ := hT.at_ ht
        obtain ⟨A1', n1', c1', A3', n3', c3', he, -, -, -, ⟨h4, h5, h6⟩, ⟨h7, h8, h9⟩, -⟩ := hcs
        simp only [List.cons.injEq, Value.slice.injEq, and_true, true_and] at he
        obtain ⟨⟨rfl, rfl, rfl⟩, rfl, rfl, rfl⟩ := he
        have HSn : Hid (S (k + 1) = S k + n1 + n3) := by
          show _ = _
          rw [HSs.out, hb1.len, hb2.len]
        clear HSs ht h6 h9 hb1 hb2
        go_wp2_with fail
        go_quiet (fail)
        go_wp2
        go_roundw
        case rel => exact ⟨k + 1, _, by omega, by rw [HSn.out]; go_num, by go_num, by have := HSn.out; omega, rfl⟩
        case measure => simp [intOf]; omega
      · have hgt : greatB ts n2 = true := by
          rw [hg.out, decide_eq_true_eq]
          have := (hSle k).out
          omega
        have Hgt := Lib.hid hgt
        have d1 : decide ((S k : Int) ≤ 4000) = false := decide_eq_false (by omega)
        have hs4 : 4000 < S k := by omega
        clear hgt hs
        go_wp2
        go_ret
        exact ⟨ret_bool (by rw [Hgt.out]; simp; omega), _, rfl⟩
    · obtain rfl : k = n := by omega
      by_cases hs : S k ≤ 4000
      all_goals
        go_wp2
        go_ret
        exact ⟨ret_bool (by rw [hg.out]; congr 1; apply propext; omega), _, rfl⟩
end Go.Proofs.Ytcjbeaohmgfgoaa
