/-
  Plain mathematics of the sum of bytes: bits, bytes, the table, linearity, bursts. No program is in sight.
-/
namespace Go.Proofs.YtcimkoehcdfjdaaGreatDoor.CrcM

abbrev W32 := BitVec 32

def poly : W32 := 0xEDB88320#32

/-- a bit is taken into a number -/
def bitS (s : W32) (b : Bool) : W32 := if (s.getLsbD 0) != b then (s >>> 1) ^^^ poly else s >>> 1

def bit1 (b : Bool) : W32 := if b then 1#32 else 0#32

theorem bitS_eq (s : W32) (b : Bool) : bitS s b = bitS (s ^^^ bit1 b) false := by
  have h : (s ^^^ bit1 b) >>> 1 = s >>> 1 := by
    apply BitVec.eq_of_getLsbD_eq
    intro i hi
    cases b <;> simp [bit1]
  unfold bitS
  rw [h]
  cases b <;> simp [bit1]

theorem poly_top : poly.getLsbD 31 = true := by decide

/-- the step by a 0 bit -/
def z (s : W32) : W32 := bitS s false

theorem z_xor (a b : W32) : z (a ^^^ b) = z a ^^^ z b := by
  unfold z bitS
  rw [BitVec.ushiftRight_xor_distrib]
  have e : (a ^^^ b).getLsbD 0 = (a.getLsbD 0 ^^ b.getLsbD 0) := by simp
  rw [e]
  have hp : poly ^^^ poly = 0#32 := BitVec.xor_self
  cases a.getLsbD 0 <;> cases b.getLsbD 0 <;> simp
  · rw [BitVec.xor_assoc]
  · rw [BitVec.xor_assoc, BitVec.xor_assoc, BitVec.xor_comm poly]
  · rw [BitVec.xor_assoc, ← BitVec.xor_assoc poly, BitVec.xor_comm poly, BitVec.xor_assoc, hp, BitVec.xor_zero]

theorem z_zero : z 0#32 = 0#32 := by decide

/-- a 0 step loses nothing -/
theorem z_eq_zero {s : W32} (h : z s = 0#32) : s = 0#32 := by
  unfold z bitS at h
  by_cases h0 : s.getLsbD 0 = true
  · rw [if_pos (by simp only [h0]; rfl)] at h
    have := congrArg (fun t : W32 => t.getLsbD 31) h
    simp only [BitVec.getLsbD_xor, poly_top, BitVec.getLsbD_ushiftRight] at this
    rw [BitVec.getLsbD_of_ge s (1 + 31) (by omega)] at this
    simp at this
  · have h0' : s.getLsbD 0 = false := by simpa using h0
    rw [if_neg (by simp only [h0']; decide)] at h
    apply BitVec.eq_of_getLsbD_eq
    intro i hi
    cases i with
    | zero => simpa using h0'
    | succ i =>
      have := congrArg (fun t : W32 => t.getLsbD i) h
      simp only [BitVec.getLsbD_ushiftRight] at this
      rw [Nat.add_comm] at this
      simpa using this

/-- n steps by 0 bits -/
def zN : Nat → W32 → W32
  | 0, s => s
  | n + 1, s => zN n (z s)

theorem zN_xor (n : Nat) (a b : W32) : zN n (a ^^^ b) = zN n a ^^^ zN n b := by
  induction n generalizing a b with
  | zero => rfl
  | succ n ih => simp only [zN]; rw [z_xor, ih]
theorem zN_zero (n : Nat) : zN n 0#32 = 0#32 := by
  induction n with
  | zero => rfl
  | succ n ih => simp only [zN]; rw [z_zero, ih]
theorem zN_eq_zero {n : Nat} {s : W32} (h : zN n s = 0#32) : s = 0#32 := by
  induction n generalizing s with
  | zero => exact h
  | succ n ih => exact z_eq_zero (ih h)

/-- bits are taken, one behind the other -/
def run (s : W32) (l : List Bool) : W32 := l.foldl bitS s

theorem run_append (s : W32) (l m : List Bool) : run s (l ++ m) = run (run s l) m := by simp [run]
theorem bitS_xor (s t : W32) (a b : Bool) : bitS (s ^^^ t) (a ^^ b) = bitS s a ^^^ bitS t b := by
  rw [bitS_eq, bitS_eq s, bitS_eq t]
  have : s ^^^ t ^^^ bit1 (a ^^ b) = (s ^^^ bit1 a) ^^^ (t ^^^ bit1 b) := by
    have e : bit1 (a ^^ b) = bit1 a ^^^ bit1 b := by cases a <;> cases b <;> decide
    rw [e]
    simp only [BitVec.xor_assoc]
    congr 1
    rw [← BitVec.xor_assoc, ← BitVec.xor_assoc, BitVec.xor_comm t]
  rw [this]
  exact z_xor _ _

/-- two rows of one length: turned by each other -/
def xorL : List Bool → List Bool → List Bool
  | a :: l, b :: m => (a ^^ b) :: xorL l m
  | _, _ => []
theorem run_xor (s t : W32) (l m : List Bool) (h : l.length = m.length) : run (s ^^^ t) (xorL l m) = run s l ^^^ run t m := by
  induction l generalizing s t m with
  | nil => cases m with
    | nil => rfl
    | cons => simp at h
  | cons a l ih => cases m with
    | nil => simp at h
    | cons b m =>
      simp only [run, xorL, List.foldl_cons] at *
      rw [bitS_xor]
      exact ih _ _ _ (by simpa using h)

/-- zeros taken into 0 leave it -/
theorem run_zeros (n : Nat) : run 0#32 (List.replicate n false) = 0#32 := by
  induction n with
  | zero => rfl
  | succ n ih => rw [List.replicate_succ]; show run (bitS 0#32 false) _ = _; rw [show bitS 0#32 false = 0#32 from z_zero]; exact ih
theorem run_zeros_eq (n : Nat) (s : W32) : run s (List.replicate n false) = zN n s := by
  induction n generalizing s with
  | zero => rfl
  | succ n ih => rw [List.replicate_succ]; exact ih _

/-- bits as a number, the first one lowest -/
def pack : List Bool → W32
  | [] => 0#32
  | b :: l => bit1 b ^^^ (pack l <<< 1)

theorem pack_lsb (l : List Bool) (i : Nat) (hi : i < 32) : (pack l).getLsbD i = l.getD i false := by
  induction l generalizing i with
  | nil => simp [pack]
  | cons b l ih =>
    simp only [pack, BitVec.getLsbD_xor, BitVec.getLsbD_shiftLeft]
    cases i with
    | zero => cases b <;> simp [bit1]
    | succ i =>
      have e : (bit1 b).getLsbD (i + 1) = false := by
        cases b
        · simp [bit1]
        · simp [bit1]
      rw [e]
      have hn : ¬ (i + 1 < 1) := by omega
      simp only [hi, hn, decide_true, decide_false, Bool.not_false, Bool.true_and, Bool.false_bne, Nat.add_sub_cancel]
      rw [ih i (by omega)]
      simp

theorem z_shl (p : W32) (h : p.getLsbD 31 = false) : z (p <<< 1) = p := by
  unfold z bitS
  rw [if_neg (by simp)]
  apply BitVec.eq_of_getLsbD_eq
  intro i hi
  simp only [BitVec.getLsbD_ushiftRight, BitVec.getLsbD_shiftLeft]
  by_cases h31 : i = 31
  · subst h31
    rw [h]
    simp
  · have h1 : 1 + i < 32 := by omega
    have h2 : ¬ (1 + i < 1) := by omega
    simp only [h1, h2, decide_true, decide_false, Bool.not_false, Bool.true_and]
    congr 1
    omega

/-- up to 32 bits taken are as many 0 bits taken into the number turned by them -/
theorem run_pack (l : List Bool) (s : W32) (h : l.length ≤ 32) : run s l = zN l.length (s ^^^ pack l) := by
  induction l generalizing s with
  | nil => simp [run, zN, pack]
  | cons b l ih =>
    simp only [List.length_cons] at h
    show run (bitS s b) l = zN (l.length + 1) _
    rw [ih _ (by omega), bitS_eq]
    simp only [zN, pack]
    rw [← BitVec.xor_assoc, z_xor]
    congr 1
    congr 1
    rw [z_shl]
    rw [pack_lsb _ _ (by omega)]
    have : l[31]? = none := List.getElem?_eq_none (by omega)
    simp [this]

/-- THE BURST: zeros, up to 32 bits of which one is set, zeros: what is left of 0 is not 0. -/
theorem burst_ne (n k : Nat) (l : List Bool) (hl : l.length ≤ 32) (i : Nat) (hi : l.getD i false = true) :
    run 0#32 (List.replicate n false ++ l ++ List.replicate k false) ≠ 0#32 := by
  intro h
  rw [run_append, run_append, run_zeros, run_zeros_eq, run_pack _ _ hl] at h
  have h1 := zN_eq_zero (zN_eq_zero h)
  have hlt : i < l.length := by
    rcases Nat.lt_or_ge i l.length with h | h
    · exact h
    · simp [List.getD, List.getElem?_eq_none h] at hi
  have := congrArg (fun t : W32 => t.getLsbD i) h1
  simp only [BitVec.getLsbD_xor] at this
  rw [pack_lsb _ _ (by omega), hi] at this
  simp at this


/-! ### bytes -/

/-- a byte's bits, the lowest one first -/
def bitsOf (b : UInt8) : List Bool := (List.range 8).map fun i => b.toNat.testBit i
theorem bitsOf_length (b : UInt8) : (bitsOf b).length = 8 := by simp [bitsOf]
/-- a byte is taken -/
def takeB (s : W32) (b : UInt8) : W32 := run s (bitsOf b)
/-- the sum goes on from s -/
def upd (s : W32) (l : List UInt8) : W32 := ~~~(l.foldl takeB (~~~s))
/-- the sum -/
def sum (l : List UInt8) : W32 := upd 0#32 l
def allBits (l : List UInt8) : List Bool := l.flatMap bitsOf

theorem foldl_takeB (s : W32) (l : List UInt8) : l.foldl takeB s = run s (allBits l) := by
  induction l generalizing s with
  | nil => rfl
  | cons b l ih => simp only [List.foldl_cons, allBits, List.flatMap_cons, run_append]; exact ih _

theorem bitsOf_getD (b : UInt8) (i : Nat) (h : i < 8) : (bitsOf b).getD i false = b.toNat.testBit i := by
  simp [bitsOf, h]

theorem allBits_length (l : List UInt8) : (allBits l).length = 8 * l.length := by
  induction l with
  | nil => rfl
  | cons b l ih => simp only [allBits, List.flatMap_cons, List.length_append, bitsOf_length, List.length_cons] at *; omega

theorem allBits_getD (l : List UInt8) (j : Nat) (h : j < 8 * l.length) : (allBits l).getD j false = (l.getD (j / 8) 0).toNat.testBit (j % 8) := by
  induction l generalizing j with
  | nil => simp at h
  | cons b l ih =>
    have e : allBits (b :: l) = bitsOf b ++ allBits l := rfl
    rw [e]
    by_cases hj : j < 8
    · rw [List.getD_eq_getElem?_getD, List.getElem?_append_left (by rw [bitsOf_length]; exact hj), ← List.getD_eq_getElem?_getD, bitsOf_getD _ _ hj]
      rw [Nat.div_eq_of_lt hj, Nat.mod_eq_of_lt hj]; rfl
    · rw [List.getD_eq_getElem?_getD, List.getElem?_append_right (by rw [bitsOf_length]; omega), ← List.getD_eq_getElem?_getD, bitsOf_length]
      have hl : j < 8 * l.length + 8 := by simp at h; omega
      rw [ih _ (by omega)]
      have e1 : j / 8 = (j - 8) / 8 + 1 := by omega
      have e2 : (j - 8) % 8 = j % 8 := by omega
      rw [e1, e2]
      simp

/-! ### by the table -/

theorem bitsOf_getLsb (b : UInt8) (i : Nat) (hi : i < 32) : (pack (bitsOf b)).getLsbD i = b.toNat.testBit i := by
  rw [pack_lsb _ _ hi]
  by_cases h : i < 8
  · exact bitsOf_getD b i h
  · rw [Nat.testBit_lt_two_pow (Nat.lt_of_lt_of_le b.toNat_lt (Nat.pow_le_pow_right (by omega) (show 8 ≤ i by omega)))]
    rw [List.getD_eq_getElem?_getD, List.getElem?_eq_none (by rw [bitsOf_length]; omega)]
    rfl

theorem pack_bitsOf (b : UInt8) : pack (bitsOf b) = BitVec.ofNat 32 b.toNat := by
  apply BitVec.eq_of_getLsbD_eq
  intro i hi
  rw [bitsOf_getLsb _ _ hi]
  rw [BitVec.getLsbD_ofNat]
  simp only [hi, decide_true, Bool.true_and]

theorem takeB_eq (s : W32) (b : UInt8) : takeB s b = zN 8 (s ^^^ BitVec.ofNat 32 b.toNat) := by
  unfold takeB
  rw [run_pack _ _ (by rw [bitsOf_length]; omega), bitsOf_length, pack_bitsOf]

theorem zN_shl (n : Nat) (p : W32) (h : ∀ i, i < n → p.getLsbD (31 - i) = false) (hn : n ≤ 32) : zN n (p <<< n) = p := by
  induction n generalizing p with
  | zero => simp [zN]
  | succ n ih =>
    simp only [zN]
    have e : p <<< (n + 1) = (p <<< n) <<< 1 := by rw [BitVec.shiftLeft_add]
    rw [e, z_shl]
    · exact ih p (fun i hi => h i (by omega)) (by omega)
    · rw [BitVec.getLsbD_shiftLeft]
      have := h n (by omega)
      simp only [show 31 < 32 by omega, decide_true, Bool.true_and]
      rw [this, Bool.and_false]

theorem split8 (s : W32) : s = (BitVec.ofNat 32 (s.toNat % 256)) ^^^ ((s >>> 8) <<< 8) := by
  apply BitVec.eq_of_getLsbD_eq
  intro i hi
  simp only [BitVec.getLsbD_xor, BitVec.getLsbD_ofNat, BitVec.getLsbD_shiftLeft, BitVec.getLsbD_ushiftRight, hi, decide_true, Bool.true_and]
  rw [show (256 : Nat) = 2 ^ 8 from rfl, Nat.testBit_mod_two_pow]
  by_cases h : i < 8
  · simp [h, BitVec.getLsbD]
  · have e : 8 + (i - 8) = i := by omega
    simp [h, e]

theorem zN8_split (s : W32) : zN 8 s = zN 8 (BitVec.ofNat 32 (s.toNat % 256)) ^^^ (s >>> 8) := by
  conv => lhs; rw [split8 s]
  rw [zN_xor, zN_shl 8 (s >>> 8) _ (by omega)]
  intro i hi
  rw [BitVec.getLsbD_ushiftRight]
  exact BitVec.getLsbD_of_ge _ _ (by omega)

/-- what 0 becomes by a byte -/
def tab (i : Nat) : W32 := takeB 0#32 (UInt8.ofNat i)
theorem tab_eq (i : Nat) (h : i < 256) : tab i = zN 8 (BitVec.ofNat 32 i) := by
  unfold tab
  rw [takeB_eq, BitVec.zero_xor, UInt8.toNat_ofNat', Nat.mod_eq_of_lt h]

/-- ONE STEP BY THE TABLE -/
theorem takeB_tab (s : W32) (b : UInt8) : takeB s b = tab ((s.toNat % 256) ^^^ b.toNat) ^^^ (s >>> 8) := by
  have hb := b.toNat_lt
  have hx : (s.toNat % 256) ^^^ b.toNat < 256 := Nat.xor_lt_two_pow (n := 8) (by omega) hb
  rw [takeB_eq, zN8_split, tab_eq _ hx]
  have e1 : (s ^^^ BitVec.ofNat 32 b.toNat).toNat % 256 = (s.toNat % 256) ^^^ b.toNat := by
    rw [BitVec.toNat_xor, BitVec.toNat_ofNat, Nat.mod_eq_of_lt (show b.toNat < 2 ^ 32 by omega)]
    rw [show (256 : Nat) = 2 ^ 8 from rfl, Nat.xor_mod_two_pow]
    congr 1
    exact Nat.mod_eq_of_lt hb
  have e2 : (s ^^^ BitVec.ofNat 32 b.toNat) >>> 8 = s >>> 8 := by
    apply BitVec.eq_of_getLsbD_eq
    intro i hi
    simp only [BitVec.getLsbD_ushiftRight, BitVec.getLsbD_xor, BitVec.getLsbD_ofNat]
    rw [Nat.testBit_lt_two_pow (Nat.lt_of_lt_of_le hb (Nat.pow_le_pow_right (by omega) (show 8 ≤ 8 + i by omega)))]
    simp
  rw [e1, e2]

/-! ### what follows -/
theorem upd_append (s : W32) (l m : List UInt8) : upd s (l ++ m) = upd (upd s l) m := by
  simp [upd, List.foldl_append]

theorem run_xor_self (s : W32) (l m : List Bool) (h : l.length = m.length) : run s l ^^^ run s m = run 0#32 (xorL l m) := by
  rw [← run_xor _ _ _ _ h, BitVec.xor_self]

theorem xorL_length (l m : List Bool) (h : l.length = m.length) : (xorL l m).length = l.length := by
  induction l generalizing m with
  | nil => cases m <;> rfl
  | cons a l ih => cases m with
    | nil => simp at h
    | cons b m => simp only [xorL, List.length_cons]; rw [ih m (by simpa using h)]
theorem xorL_getD (l m : List Bool) (h : l.length = m.length) (j : Nat) : (xorL l m).getD j false = (l.getD j false ^^ m.getD j false) := by
  induction l generalizing m j with
  | nil => cases m with
    | nil => simp [xorL]
    | cons => simp at h
  | cons a l ih => cases m with
    | nil => simp at h
    | cons b m => cases j with
      | zero => simp [xorL]
      | succ j => simpa [xorL] using ih m (by simpa using h) j

theorem ext_getD {l m : List Bool} (h : l.length = m.length) (hg : ∀ j, j < l.length → l.getD j false = m.getD j false) : l = m := by
  apply List.ext_getElem h
  intro j h1 h2
  have := hg j h1
  simpa [List.getD, h1, h2] using this

/-- THE STAGE's THEOREM. -/
theorem burst (b c : List UInt8) (fr : Nat) (mask : Nat) (hl : b.length = c.length) (hf : fr ≤ 8 * b.length)
    (hbit : ∀ j, j < 8 * b.length → (c.getD (j / 8) 0).toNat.testBit (j % 8) = ((b.getD (j / 8) 0).toNat.testBit (j % 8) ^^ (decide (fr ≤ j) && (decide (j < fr + 32) && mask.testBit (j - fr)))))
    (i : Nat) (hi : i < 32) (hm : mask.testBit i = true) (hin : fr + i < 8 * b.length) : sum b ≠ sum c := by
  intro h
  have h1 : b.foldl takeB (~~~0#32) = c.foldl takeB (~~~0#32) := by
    have := congrArg (~~~ ·) h
    simpa [sum, upd] using this
  rw [foldl_takeB, foldl_takeB] at h1
  have hlen : (allBits b).length = (allBits c).length := by rw [allBits_length, allBits_length, hl]
  have h2 := run_xor_self (~~~0#32) _ _ hlen
  rw [h1, BitVec.xor_self] at h2
  have hw : xorL (allBits b) (allBits c) = List.replicate fr false ++ (List.range (min 32 (8 * b.length - fr))).map (fun t => mask.testBit t) ++ List.replicate (8 * b.length - fr - min 32 (8 * b.length - fr)) false := by
    apply ext_getD
    · rw [xorL_length _ _ hlen, allBits_length]; simp; omega
    · intro j hj
      rw [xorL_length _ _ hlen, allBits_length] at hj
      rw [xorL_getD _ _ hlen, allBits_getD _ _ hj, allBits_getD _ _ (by omega), hbit j hj]
      rw [← Bool.xor_assoc, Bool.xor_self, Bool.false_xor]
      rw [List.append_assoc]
      by_cases h1 : fr ≤ j
      · rw [List.getD_eq_getElem?_getD, List.getElem?_append_right (by simpa using h1)]
        simp only [List.length_replicate]
        by_cases h3 : j < fr + 32
        · rw [List.getElem?_append_left (by simp; omega)]
          simp only [h1, h3, decide_true, Bool.true_and]
          rw [List.getElem?_map, List.getElem?_range (by omega)]
          rfl
        · rw [List.getElem?_append_right (by simp; omega)]
          simp only [h3, decide_false, Bool.false_and, Bool.and_false]
          rw [List.getElem?_replicate]
          split <;> rfl
      · rw [List.getD_eq_getElem?_getD, List.getElem?_append_left (by simp; omega)]
        simp only [h1, decide_false, Bool.false_and]
        rw [List.getElem?_replicate]
        split <;> rfl
  rw [hw] at h2
  refine burst_ne fr _ _ (by simp; omega) i ?_ h2.symm
  rw [List.getD_eq_getElem?_getD, List.getElem?_map, List.getElem?_range (by omega)]
  simpa using hm

theorem takeB_xor (s t : W32) (a b : UInt8) : takeB (s ^^^ t) (a ^^^ b) = takeB s a ^^^ takeB t b := by
  rw [takeB_eq, takeB_eq, takeB_eq, ← zN_xor]
  congr 1
  have e : BitVec.ofNat 32 (a ^^^ b).toNat = BitVec.ofNat 32 a.toNat ^^^ BitVec.ofNat 32 b.toNat := by
    rw [UInt8.toNat_xor]
    apply BitVec.eq_of_getLsbD_eq
    intro i hi
    simp only [BitVec.getLsbD_xor, BitVec.getLsbD_ofNat, hi, decide_true, Bool.true_and, Nat.testBit_xor]
  rw [e]
  simp only [BitVec.xor_assoc]
  congr 1
  rw [← BitVec.xor_assoc, ← BitVec.xor_assoc, BitVec.xor_comm t]

theorem foldl_xor (x b c : List UInt8) (s t : W32) (h1 : b.length = x.length) (h2 : c.length = x.length) (h : ∀ j, j < x.length → x.getD j 0 = b.getD j 0 ^^^ c.getD j 0) :
    x.foldl takeB (s ^^^ t) = b.foldl takeB s ^^^ c.foldl takeB t := by
  induction x generalizing b c s t with
  | nil =>
    obtain rfl := List.eq_nil_of_length_eq_zero h1
    obtain rfl := List.eq_nil_of_length_eq_zero h2
    rfl
  | cons x xs ih =>
    match b, c, h1, h2 with
    | b :: bs, c :: cs, h1, h2 =>
      have h0 := h 0 (by simp)
      simp only [List.getD_cons_zero] at h0
      simp only [List.foldl_cons]
      rw [h0, takeB_xor]
      exact ih bs cs _ _ (by simpa using h1) (by simpa using h2) (fun j hj => by simpa using h (j + 1) (by simpa using hj))

theorem not_xor3 (a b c : W32) : ~~~(a ^^^ (b ^^^ c)) = ~~~a ^^^ ~~~b ^^^ ~~~c := by
  apply BitVec.eq_of_getLsbD_eq
  intro i hi
  simp only [BitVec.getLsbD_not, BitVec.getLsbD_xor, hi, decide_true, Bool.true_and]
  cases a.getLsbD i <;> cases b.getLsbD i <;> cases c.getLsbD i <;> rfl

/-- sums of rows of one length are linear -/
theorem sum_linear (x b c n : List UInt8) (hb : b.length = x.length) (hc : c.length = x.length) (hn : n.length = x.length)
    (h : ∀ j, j < x.length → x.getD j 0 = b.getD j 0 ^^^ c.getD j 0) (h0 : ∀ j, j < x.length → n.getD j 0 = 0) : sum x = sum b ^^^ sum c ^^^ sum n := by
  unfold sum upd
  rw [← not_xor3]
  congr 1
  have e : (~~~0#32 : W32) = ~~~0#32 ^^^ (~~~0#32 ^^^ ~~~0#32) := by decide
  have e1 : c.foldl takeB (~~~0#32 ^^^ ~~~0#32) = c.foldl takeB (~~~0#32) ^^^ n.foldl takeB (~~~0#32) :=
    foldl_xor c c n _ _ rfl (by omega) (fun j hj => by rw [h0 j (by omega)]; simp)
  rw [← e1]
  conv => lhs; rw [e]
  exact foldl_xor x b c _ _ hb hc h

/-- cc is l, turned at the first i places of the burst -/
structure Flip (l cc : List UInt8) (fr mask i : Nat) : Prop where
  len : cc.length = l.length
  bit : ∀ j, j < 8 * l.length → (cc.getD (j / 8) 0).toNat.testBit (j % 8) = ((l.getD (j / 8) 0).toNat.testBit (j % 8) ^^ (decide (fr ≤ j) && (decide (j < fr + i) && mask.testBit (j - fr))))

theorem Flip.zero (l : List UInt8) (fr mask : Nat) : Flip l l fr mask 0 := ⟨rfl, fun j _ => by
  by_cases h1 : fr ≤ j
  · have h2 : ¬ j < fr + 0 := by omega
    simp only [h2, decide_false, Bool.false_and, Bool.and_false, Bool.xor_false]
  · simp only [h1, decide_false, Bool.false_and, Bool.xor_false]⟩
theorem Flip.skip {l cc : List UInt8} {fr mask i : Nat} (h : Flip l cc fr mask i) (hb : mask.testBit i = false) : Flip l cc fr mask (i + 1) := ⟨h.len, fun j hj => by
  rw [h.bit j hj]
  congr 1
  by_cases h1 : fr ≤ j
  · simp only [h1, decide_true, Bool.true_and]
    by_cases h2 : j < fr + i
    · have h3 : j < fr + (i + 1) := by omega
      simp only [h2, h3]
    · by_cases h3 : j = fr + i
      · subst h3
        simp [hb]
      · have h4 : ¬ j < fr + (i + 1) := by omega
        simp only [h2, h4]
  · simp only [h1, decide_false, Bool.false_and]⟩
theorem Flip.step {l cc : List UInt8} {fr mask i : Nat} {x y : UInt8} (h : Flip l cc fr mask i) (hb : mask.testBit i = true) (hx : cc[(fr + i) / 8]? = some x)
    (hy : y.toNat = x.toNat ^^^ 2 ^ ((fr + i) % 8)) : Flip l (cc.set ((fr + i) / 8) y) fr mask (i + 1) := ⟨by rw [List.length_set, h.len], fun j hj => by
  have hlt : (fr + i) / 8 < cc.length := (List.getElem?_eq_some_iff.1 hx).1
  have hold := h.bit j hj
  by_cases hq : j / 8 = (fr + i) / 8
  · have e1 : ((cc.set ((fr + i) / 8) y).getD (j / 8) 0) = y := by rw [hq, List.getD_eq_getElem?_getD, List.getElem?_set_self hlt]; rfl
    have e2 : cc.getD (j / 8) 0 = x := by rw [hq, List.getD_eq_getElem?_getD, hx]; rfl
    rw [e2] at hold
    rw [e1, hy, Nat.testBit_xor, hold, Nat.testBit_two_pow, Bool.xor_assoc]
    congr 1
    by_cases h3 : j = fr + i
    · subst h3
      have h1 : fr ≤ fr + i := by omega
      have h2 : ¬ fr + i < fr + i := by omega
      have h4 : fr + i < fr + (i + 1) := by omega
      simp [h2, h4, hb]
    · have hm : ¬ (fr + i) % 8 = j % 8 := by omega
      simp only [hm, decide_false, Bool.xor_false]
      by_cases h1 : fr ≤ j
      · simp only [h1, decide_true, Bool.true_and]
        by_cases h2 : j < fr + i
        · have h4 : j < fr + (i + 1) := by omega
          simp only [h2, h4]
        · have h4 : ¬ j < fr + (i + 1) := by omega
          simp only [h2, h4]
      · simp only [h1, decide_false, Bool.false_and]
  · have e1 : ((cc.set ((fr + i) / 8) y).getD (j / 8) 0) = cc.getD (j / 8) 0 := by
      rw [List.getD_eq_getElem?_getD, List.getElem?_set_ne (Ne.symm hq), List.getD_eq_getElem?_getD]
    rw [e1, hold]
    congr 1
    by_cases h1 : fr ≤ j
    · simp only [h1, decide_true, Bool.true_and]
      by_cases h2 : j < fr + i
      · have h4 : j < fr + (i + 1) := by omega
        simp only [h2, h4]
      · have h4 : ¬ j < fr + (i + 1) := by
          intro h4
          have : j = fr + i := by omega
          subst this
          exact hq rfl
        simp only [h2, h4]
    · simp only [h1, decide_false, Bool.false_and]⟩

/-- the end of the burst -/
theorem Flip.ends {l cc : List UInt8} {fr mask i : Nat} (h : Flip l cc fr mask i) (hf : fr ≤ 8 * l.length) (_hi : i ≤ 32) (he : i = 32 ∨ 8 * l.length ≤ fr + i) (t : Nat) (ht : t < i) (hm : mask.testBit t = true) (_hin : fr + i ≤ 8 * l.length) : sum l ≠ sum cc := by
  refine burst l cc fr mask h.len.symm hf (fun j hj => ?_) t (by omega) hm (by omega)
  rw [h.bit j hj]
  by_cases h1 : fr ≤ j
  · have e : decide (j < fr + i) = decide (j < fr + 32) := by rw [decide_eq_decide]; omega
    rw [e]
  · simp only [h1, decide_false, Bool.false_and]

end Go.Proofs.YtcimkoehcdfjdaaGreatDoor.CrcM
