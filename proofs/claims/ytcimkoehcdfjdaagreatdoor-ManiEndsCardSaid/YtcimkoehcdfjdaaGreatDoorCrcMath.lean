/-
  Plain mathematics of the sum of bytes: bits, bytes, the table, linearity, bursts. No program is in sight.
-/
namespace Go.Proofs.YtcimkoehcdfjdaaGreatDoor.CrcM

abbrev W32 := BitVec 32

def poly : W32 := 0xEDB88320#32

def bitS (s : W32) (b : Bool) : W32 := if (s.getLsbD 0) != b then (s >>> 1) ^^^ poly else s >>> 1

def bit1 (b : Bool) : W32 := if b then 1#32 else 0#32

theorem bitS_eq (s : W32) (b : Bool) : bitS s b = bitS (s ^^^ bit1 b) false := by
 have h : (s ^^^ bit1 b) >>> 1 = s >>> 1 := by
  apply BitVec.eq_of_getLsbD_eq
  intro i hi
  cases b <;> simp [bit1]
 unfold bitS
 rw [h]
 cases b <;> simp [bit1]

def z (s : W32) : W32 := bitS s false

theorem z_xor (a b : W32) : z (a ^^^ b) = z a ^^^ z b := by
 unfold z bitS
 rw [BitVec.ushiftRight_xor_distrib]
 have e : (a ^^^ b).getLsbD 0 = (a.getLsbD 0 ^^ b.getLsbD 0) := by simp
 rw [e]
 have hp : poly ^^^ poly = 0#32 := BitVec.xor_self
 cases a.getLsbD 0 <;> cases b.getLsbD 0 <;> simp
 ·rw [BitVec.xor_assoc]
 ·rw [BitVec.xor_assoc, BitVec.xor_assoc, BitVec.xor_comm poly]
 ·rw [BitVec.xor_assoc, ← BitVec.xor_assoc poly, BitVec.xor_comm poly, BitVec.xor_assoc, hp, BitVec.xor_zero]

def zN : Nat → W32 → W32
 | 0, s => s
 | n + 1, s => zN n (z s)

theorem zN_xor (n : Nat) (a b : W32) : zN n (a ^^^ b) = zN n a ^^^ zN n b := by
 induction n generalizing a b with
 | zero => rfl
 | succ n ih => simp only [zN]; rw [z_xor, ih]
def run (s : W32) (l : List Bool) : W32 := l.foldl bitS s

theorem run_append (s : W32) (l m : List Bool) : run s (l ++ m) = run (run s l) m := by simp [run]
def pack : List Bool → W32
 | [] => 0#32
 | b :: l => bit1 b ^^^ (pack l <<< 1)

theorem pack_lsb (l : List Bool) (i : Nat) (hi : i < 32) : (pack l).getLsbD i = l.getD i false := by
 induction l generalizing i with
 | nil => simp [pack]
 | cons b l ih =>
  simp only [pack, BitVec.getLsbD_xor, BitVec.getLsbD_shiftLeft]
  cases i with
  | zero => cases b <;> simp [bit1]
  | succ i =>
   have e : (bit1 b).getLsbD (i + 1) = false := by
    cases b
    ·simp [bit1]
    ·simp [bit1]
   rw [e]
   have hn : ¬ (i + 1 < 1) := by omega
   simp only [hi, hn, decide_true, decide_false, Bool.not_false, Bool.true_and, Bool.false_bne, Nat.add_sub_cancel]
   rw [ih i (by omega)]
   simp

theorem z_shl (p : W32) (h : p.getLsbD 31 = false) : z (p <<< 1) = p := by
 unfold z bitS
 rw [if_neg (by simp)]
 apply BitVec.eq_of_getLsbD_eq
 intro i hi
 simp only [BitVec.getLsbD_ushiftRight, BitVec.getLsbD_shiftLeft]
 by_cases h31 : i = 31
 ·subst h31
  rw [h]
  simp
 ·have h1 : 1 + i < 32 := by omega
  have h2 : ¬ (1 + i < 1) := by omega
  simp only [h1, h2, decide_true, decide_false, Bool.not_false, Bool.true_and]
  congr 1
  omega

theorem run_pack (l : List Bool) (s : W32) (h : l.length ≤ 32) : run s l = zN l.length (s ^^^ pack l) := by
 induction l generalizing s with
 | nil => simp [run, zN, pack]
 | cons b l ih =>
  simp only [List.length_cons] at h
  show run (bitS s b) l = zN (l.length + 1) _
  rw [ih _ (by omega), bitS_eq]
  simp only [zN, pack]
  rw [← BitVec.xor_assoc, z_xor]
  congr 1
  congr 1
  rw [z_shl]
  rw [pack_lsb _ _ (by omega)]
  have : l[31]? = none := List.getElem?_eq_none (by omega)
  simp [this]

/-! ### bytes -/

def bitsOf (b : UInt8) : List Bool := (List.range 8).map fun i => b.toNat.testBit i
theorem bitsOf_length (b : UInt8) : (bitsOf b).length = 8 := by simp [bitsOf]
def takeB (s : W32) (b : UInt8) : W32 := run s (bitsOf b)
def upd (s : W32) (l : List UInt8) : W32 := ~~~(l.foldl takeB (~~~s))
def sum (l : List UInt8) : W32 := upd 0#32 l
theorem bitsOf_getD (b : UInt8) (i : Nat) (h : i < 8) : (bitsOf b).getD i false = b.toNat.testBit i := by
 simp [bitsOf, h]

/-! ### by the table -/

theorem bitsOf_getLsb (b : UInt8) (i : Nat) (hi : i < 32) : (pack (bitsOf b)).getLsbD i = b.toNat.testBit i := by
 rw [pack_lsb _ _ hi]
 by_cases h : i < 8
 ·exact bitsOf_getD b i h
 ·rw [Nat.testBit_lt_two_pow (Nat.lt_of_lt_of_le b.toNat_lt (Nat.pow_le_pow_right (by omega) (show 8 ≤ i by omega)))]
  rw [List.getD_eq_getElem?_getD, List.getElem?_eq_none (by rw [bitsOf_length]; omega)]
  rfl

theorem pack_bitsOf (b : UInt8) : pack (bitsOf b) = BitVec.ofNat 32 b.toNat := by
 apply BitVec.eq_of_getLsbD_eq
 intro i hi
 rw [bitsOf_getLsb _ _ hi]
 rw [BitVec.getLsbD_ofNat]
 simp only [hi, decide_true, Bool.true_and]

theorem takeB_eq (s : W32) (b : UInt8) : takeB s b = zN 8 (s ^^^ BitVec.ofNat 32 b.toNat) := by
 unfold takeB
 rw [run_pack _ _ (by rw [bitsOf_length]; omega), bitsOf_length, pack_bitsOf]

theorem zN_shl (n : Nat) (p : W32) (h : ∀ i, i < n → p.getLsbD (31 - i) = false) (hn : n ≤ 32) : zN n (p <<< n) = p := by
 induction n generalizing p with
 | zero => simp [zN]
 | succ n ih =>
  simp only [zN]
  have e : p <<< (n + 1) = (p <<< n) <<< 1 := by rw [BitVec.shiftLeft_add]
  rw [e, z_shl]
  ·exact ih p (fun i hi => h i (by omega)) (by omega)
  ·rw [BitVec.getLsbD_shiftLeft]
   have := h n (by omega)
   simp only [show 31 < 32 by omega, decide_true, Bool.true_and]
   rw [this, Bool.and_false]

theorem split8 (s : W32) : s = (BitVec.ofNat 32 (s.toNat % 256)) ^^^ ((s >>> 8) <<< 8) := by
 apply BitVec.eq_of_getLsbD_eq
 intro i hi
 simp only [BitVec.getLsbD_xor, BitVec.getLsbD_ofNat, BitVec.getLsbD_shiftLeft, BitVec.getLsbD_ushiftRight, hi, decide_true, Bool.true_and]
 rw [show (256 : Nat) = 2 ^ 8 from rfl, Nat.testBit_mod_two_pow]
 by_cases h : i < 8
 ·simp [h, BitVec.getLsbD]
 ·have e : 8 + (i - 8) = i := by omega
  simp [h, e]

theorem zN8_split (s : W32) : zN 8 s = zN 8 (BitVec.ofNat 32 (s.toNat % 256)) ^^^ (s >>> 8) := by
 conv => lhs; rw [split8 s]
 rw [zN_xor, zN_shl 8 (s >>> 8) _ (by omega)]
 intro i hi
 rw [BitVec.getLsbD_ushiftRight]
 exact BitVec.getLsbD_of_ge _ _ (by omega)

def tab (i : Nat) : W32 := takeB 0#32 (UInt8.ofNat i)
theorem tab_eq (i : Nat) (h : i < 256) : tab i = zN 8 (BitVec.ofNat 32 i) := by
 unfold tab
 rw [takeB_eq, BitVec.zero_xor, UInt8.toNat_ofNat', Nat.mod_eq_of_lt h]

theorem takeB_tab (s : W32) (b : UInt8) : takeB s b = tab ((s.toNat % 256) ^^^ b.toNat) ^^^ (s >>> 8) := by
 have hb := b.toNat_lt
 have hx : (s.toNat % 256) ^^^ b.toNat < 256 := Nat.xor_lt_two_pow (n := 8) (by omega) hb
 rw [takeB_eq, zN8_split, tab_eq _ hx]
 have e1 : (s ^^^ BitVec.ofNat 32 b.toNat).toNat % 256 = (s.toNat % 256) ^^^ b.toNat := by
  rw [BitVec.toNat_xor, BitVec.toNat_ofNat, Nat.mod_eq_of_lt (show b.toNat < 2 ^ 32 by omega)]
  rw [show (256 : Nat) = 2 ^ 8 from rfl, Nat.xor_mod_two_pow]
  congr 1
  exact Nat.mod_eq_of_lt hb
 have e2 : (s ^^^ BitVec.ofNat 32 b.toNat) >>> 8 = s >>> 8 := by
  apply BitVec.eq_of_getLsbD_eq
  intro i hi
  simp only [BitVec.getLsbD_ushiftRight, BitVec.getLsbD_xor, BitVec.getLsbD_ofNat]
  rw [Nat.testBit_lt_two_pow (Nat.lt_of_lt_of_le hb (Nat.pow_le_pow_right (by omega) (show 8 ≤ 8 + i by omega)))]
  simp
 rw [e1, e2]

/-! ### what follows -/
structure Flip (l cc : List UInt8) (fr mask i : Nat) : Prop where
 len : cc.length = l.length
 bit : ∀ j, j < 8 * l.length → (cc.getD (j / 8) 0).toNat.testBit (j % 8) = ((l.getD (j / 8) 0).toNat.testBit (j % 8) ^^ (decide (fr ≤ j) && (decide (j < fr + i) && mask.testBit (j - fr))))

theorem Flip.zero (l : List UInt8) (fr mask : Nat) : Flip l l fr mask 0 := ⟨rfl, fun j _ => by
 by_cases h1 : fr ≤ j
 ·have h2 : ¬ j < fr + 0 := by omega
  simp only [h2, decide_false, Bool.false_and, Bool.and_false, Bool.xor_false]
 ·simp only [h1, decide_false, Bool.false_and, Bool.xor_false]⟩
theorem Flip.skip {l cc : List UInt8} {fr mask i : Nat} (h : Flip l cc fr mask i) (hb : mask.testBit i = false) : Flip l cc fr mask (i + 1) := ⟨h.len, fun j hj => by
 rw [h.bit j hj]
 congr 1
 by_cases h1 : fr ≤ j
 ·simp only [h1, decide_true, Bool.true_and]
  by_cases h2 : j < fr + i
  ·have h3 : j < fr + (i + 1) := by omega
   simp only [h2, h3]
  ·by_cases h3 : j = fr + i
   ·subst h3
    simp [hb]
   ·have h4 : ¬ j < fr + (i + 1) := by omega
    simp only [h2, h4]
 ·simp only [h1, decide_false, Bool.false_and]⟩
theorem Flip.step {l cc : List UInt8} {fr mask i : Nat} {x y : UInt8} (h : Flip l cc fr mask i) (hb : mask.testBit i = true) (hx : cc[(fr + i) / 8]? = some x)
  (hy : y.toNat = x.toNat ^^^ 2 ^ ((fr + i) % 8)) : Flip l (cc.set ((fr + i) / 8) y) fr mask (i + 1) := ⟨by rw [List.length_set, h.len], fun j hj => by
 have hlt : (fr + i) / 8 < cc.length := (List.getElem?_eq_some_iff.1 hx).1
 have hold := h.bit j hj
 by_cases hq : j / 8 = (fr + i) / 8
 ·have e1 : ((cc.set ((fr + i) / 8) y).getD (j / 8) 0) = y := by rw [hq, List.getD_eq_getElem?_getD, List.getElem?_set_self hlt]; rfl
  have e2 : cc.getD (j / 8) 0 = x := by rw [hq, List.getD_eq_getElem?_getD, hx]; rfl
  rw [e2] at hold
  rw [e1, hy, Nat.testBit_xor, hold, Nat.testBit_two_pow, Bool.xor_assoc]
  congr 1
  by_cases h3 : j = fr + i
  ·subst h3
   have h1 : fr ≤ fr + i := by omega
   have h2 : ¬ fr + i < fr + i := by omega
   have h4 : fr + i < fr + (i + 1) := by omega
   simp [h2, h4, hb]
  ·have hm : ¬ (fr + i) % 8 = j % 8 := by omega
   simp only [hm, decide_false, Bool.xor_false]
   by_cases h1 : fr ≤ j
   ·simp only [h1, decide_true, Bool.true_and]
    by_cases h2 : j < fr + i
    ·have h4 : j < fr + (i + 1) := by omega
     simp only [h2, h4]
    ·have h4 : ¬ j < fr + (i + 1) := by omega
     simp only [h2, h4]
   ·simp only [h1, decide_false, Bool.false_and]
 ·have e1 : ((cc.set ((fr + i) / 8) y).getD (j / 8) 0) = cc.getD (j / 8) 0 := by
   rw [List.getD_eq_getElem?_getD, List.getElem?_set_ne (Ne.symm hq), List.getD_eq_getElem?_getD]
  rw [e1, hold]
  congr 1
  by_cases h1 : fr ≤ j
  ·simp only [h1, decide_true, Bool.true_and]
   by_cases h2 : j < fr + i
   ·have h4 : j < fr + (i + 1) := by omega
    simp only [h2, h4]
   ·have h4 : ¬ j < fr + (i + 1) := by
     intro h4
     have : j = fr + i := by omega
     subst this
     exact hq rfl
    simp only [h2, h4]
  ·simp only [h1, decide_false, Bool.false_and]⟩

end Go.Proofs.YtcimkoehcdfjdaaGreatDoor.CrcM
