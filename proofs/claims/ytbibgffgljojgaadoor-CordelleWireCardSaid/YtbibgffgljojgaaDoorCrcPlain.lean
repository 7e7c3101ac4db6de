/- Plain facts on remainders of bits, in plain Lean: what one bit more makes of a remainder, that it can be taken back, that it is linear. No condition. -/
import Derived.Test.YtbibgffgljojgaaDoorKit
namespace Go.Proofs.YtbibgffgljojgaaDoor

def crcUp (r : BitVec 32) : BitVec 32 := if r.msb then (r <<< 1) ^^^ 0x04c11db7#32 else r <<< 1
def crcDn (r : BitVec 32) : BitVec 32 := if r.getLsbD 0 then ((r ^^^ 0x04c11db7#32) >>> 1) ||| 0x80000000#32 else r >>> 1
def bit1 (b : Bool) : BitVec 32 := if b then 1#32 else 0#32
def stepB (r : BitVec 32) (b : Bool) : BitVec 32 := crcUp r ^^^ bit1 b
def remB (r : BitVec 32) (l : List Bool) : BitVec 32 := l.foldl stepB r

theorem remB_nil (r : BitVec 32) : remB r [] = r := rfl
theorem remB_append (r : BitVec 32) (a b : List Bool) : remB r (a ++ b) = remB (remB r a) b := List.foldl_append ..
theorem remB_snoc (r : BitVec 32) (a : List Bool) (x : Bool) : remB r (a ++ [x]) = stepB (remB r a) x := by rw [remB_append]; rfl

theorem bit1_xor (a b : Bool) : bit1 (a ^^ b) = bit1 a ^^^ bit1 b := by cases a <;> cases b <;> decide
theorem crcUp_xor (a b : BitVec 32) : crcUp (a ^^^ b) = crcUp a ^^^ crcUp b := by
  unfold crcUp
  rw [BitVec.msb_xor]
  have hs : (a ^^^ b) <<< 1 = (a <<< 1) ^^^ (b <<< 1) := BitVec.shiftLeft_xor_distrib ..
  rw [hs]
  cases a.msb <;> cases b.msb <;> simp
  · rw [BitVec.xor_assoc]
  · rw [BitVec.xor_assoc, BitVec.xor_comm (b <<< 1), ← BitVec.xor_assoc]
  · rw [BitVec.xor_assoc (a <<< 1), BitVec.xor_comm 0x04c11db7#32, BitVec.xor_assoc (b <<< 1), BitVec.xor_self, BitVec.xor_zero]
theorem xor4 (a b c d : BitVec 32) : (a ^^^ b) ^^^ (c ^^^ d) = (a ^^^ c) ^^^ (b ^^^ d) := by
  rw [BitVec.xor_assoc, BitVec.xor_assoc, ← BitVec.xor_assoc b c, BitVec.xor_comm b c, BitVec.xor_assoc c b]
theorem stepB_xor (a b : BitVec 32) (x y : Bool) : stepB (a ^^^ b) (x ^^ y) = stepB a x ^^^ stepB b y := by
  unfold stepB
  rw [crcUp_xor, bit1_xor, xor4]
/-- The remainder of two rows of one length, xored, is that of theirs, xored. -/
theorem remB_xor : ∀ (l m : List Bool) (a b : BitVec 32), l.length = m.length → remB (a ^^^ b) (List.zipWith (· ^^ ·) l m) = remB a l ^^^ remB b m
  | [], [], _, _, _ => rfl
  | x :: l, y :: m, a, b, h => by
    show remB (stepB (a ^^^ b) (x ^^ y)) (List.zipWith _ l m) = remB (stepB a x) l ^^^ remB (stepB b y) m
    rw [stepB_xor]
    exact remB_xor l m _ _ (by simpa using h)

theorem shl_shr (r : BitVec 32) (i : Nat) : ((r <<< 1) >>> 1).getLsbD i = (decide (i < 31) && r.getLsbD i) := by
  rw [BitVec.getLsbD_ushiftRight, BitVec.getLsbD_shiftLeft]
  by_cases h : i < 31
  · have h1 : 1 + i < 32 := by omega
    have h2 : ¬ 1 + i < 1 := by omega
    have h3 : 1 + i - 1 = i := by omega
    simp [h, h1, h2, h3]
  · have h1 : ¬ 1 + i < 32 := by omega
    simp [h, h1]
theorem shr_shl (r : BitVec 32) (i : Nat) : ((r >>> 1) <<< 1).getLsbD i = (decide (1 ≤ i) && decide (i < 32) && r.getLsbD i) := by
  rw [BitVec.getLsbD_shiftLeft, BitVec.getLsbD_ushiftRight]
  by_cases h : 1 ≤ i
  · have h3 : 1 + (i - 1) = i := by omega
    have h2 : ¬ i < 1 := by omega
    simp [h, h2, h3]
  · have h2 : i < 1 := by omega
    have h4 : decide (1 ≤ i) = false := by simpa using h
    rw [h4]
    simp [h2]
theorem top_bit (i : Nat) (hi : i < 32) : (0x80000000#32).getLsbD i = decide (i = 31) := by
  have : (0x80000000#32) = BitVec.twoPow 32 31 := by decide
  rw [this, BitVec.getLsbD_twoPow]
  by_cases h : i = 31
  · subst h; decide
  · simp [h]; omega
theorem crcDn_up (r : BitVec 32) : crcDn (crcUp r) = r := by
  have hlow : (r <<< 1).getLsbD 0 = false := by simp
  unfold crcUp crcDn
  cases hm : r.msb
  · simp only [Bool.false_eq_true, if_false, hlow]
    apply BitVec.eq_of_getLsbD_eq
    intro i hi
    rw [shl_shr]
    by_cases h : i < 31
    · simp [h]
    · have : i = 31 := by omega
      subst this
      rw [BitVec.msb_eq_getLsbD_last] at hm
      simpa using hm.symm
  · have hl : ((r <<< 1) ^^^ 0x04c11db7#32).getLsbD 0 = true := by
      rw [BitVec.getLsbD_xor, hlow]; decide
    simp only [if_true, hl]
    rw [BitVec.xor_assoc, BitVec.xor_self, BitVec.xor_zero]
    apply BitVec.eq_of_getLsbD_eq
    intro i hi
    rw [BitVec.getLsbD_or, shl_shr, top_bit i hi]
    by_cases h : i < 31
    · have : i ≠ 31 := by omega
      simp [h, this]
    · have : i = 31 := by omega
      subst this
      rw [BitVec.msb_eq_getLsbD_last] at hm
      simpa using hm.symm
theorem crcUp_dn (r : BitVec 32) : crcUp (crcDn r) = r := by
  unfold crcDn
  cases hm : r.getLsbD 0
  · rw [if_neg (by simp)]
    unfold crcUp
    have : (r >>> 1).msb = false := by rw [BitVec.msb_eq_getLsbD_last, BitVec.getLsbD_ushiftRight]; simp
    rw [this, if_neg (by simp)]
    apply BitVec.eq_of_getLsbD_eq
    intro i hi
    rw [shr_shl]
    by_cases h : 1 ≤ i
    · simp [h, hi]
    · have : i = 0 := by omega
      subst this
      rw [hm]
      simp
  · rw [if_pos (by simp)]
    unfold crcUp
    have : (((r ^^^ 0x04c11db7#32) >>> 1) ||| 0x80000000#32).msb = true := by
      rw [BitVec.msb_or]
      have : (0x80000000#32).msb = true := by decide
      simp [this]
    rw [this, if_pos rfl, BitVec.shiftLeft_or_distrib]
    have ht : (0x80000000#32) <<< 1 = 0#32 := by decide
    rw [ht, BitVec.or_zero]
    have h2 : ((r ^^^ 0x04c11db7#32) >>> 1) <<< 1 = r ^^^ 0x04c11db7#32 := by
      apply BitVec.eq_of_getLsbD_eq
      intro i hi
      rw [shr_shl]
      by_cases h : 1 ≤ i
      · simp [h, hi]
      · have : i = 0 := by omega
        subst this
        rw [BitVec.getLsbD_xor, hm]
        decide
    rw [h2, BitVec.xor_assoc, BitVec.xor_self, BitVec.xor_zero]
theorem crcUp_zero : crcUp 0#32 = 0#32 := by decide
theorem crcUp_inj {a b : BitVec 32} (h : crcUp a = crcUp b) : a = b := by rw [← crcDn_up a, ← crcDn_up b, h]

/-- So many bits more, which are 0. -/
def ups : Nat → BitVec 32 → BitVec 32
  | 0, r => r
  | n + 1, r => ups n (crcUp r)
def dns : Nat → BitVec 32 → BitVec 32
  | 0, r => r
  | n + 1, r => dns n (crcDn r)
theorem dns_succ (n : Nat) (r : BitVec 32) : dns (n + 1) r = crcDn (dns n r) := by
  induction n generalizing r with
  | zero => rfl
  | succ n ih => show dns (n + 1) (crcDn r) = _; rw [ih]; rfl
theorem ups_dns (n : Nat) (r : BitVec 32) : ups n (dns n r) = r := by
  induction n generalizing r with
  | zero => rfl
  | succ n ih => rw [dns_succ]; show ups n (crcUp (crcDn (dns n r))) = r; rw [crcUp_dn, ih]
theorem ups_zero (n : Nat) : ups n 0#32 = 0#32 := by
  induction n with
  | zero => rfl
  | succ n ih => show ups n (crcUp 0#32) = _; rw [crcUp_zero, ih]
theorem ups_inj {n : Nat} {a b : BitVec 32} (h : ups n a = ups n b) : a = b := by
  induction n generalizing a b with
  | zero => exact h
  | succ n ih => exact crcUp_inj (ih h)
theorem remB_zeros (n : Nat) (r : BitVec 32) : remB r (List.replicate n false) = ups n r := by
  induction n generalizing r with
  | zero => rfl
  | succ n ih =>
    rw [List.replicate_succ]
    show remB (stepB r false) _ = ups n (crcUp r)
    rw [ih]
    unfold stepB bit1
    simp

/-- A byte's bits, the greatest first; those of a row of bytes. -/
def bitsN (n : Nat) : List Bool := [n.testBit 7, n.testBit 6, n.testBit 5, n.testBit 4, n.testBit 3, n.testBit 2, n.testBit 1, n.testBit 0]
def bitsL (l : List UInt8) : List Bool := l.flatMap fun c => bitsN c.toNat
theorem bitsL_nil : bitsL [] = [] := rfl
theorem bitsL_append (a b : List UInt8) : bitsL (a ++ b) = bitsL a ++ bitsL b := List.flatMap_append ..
theorem bitsL_cons (c : UInt8) (l : List UInt8) : bitsL (c :: l) = bitsN c.toNat ++ bitsL l := rfl
theorem bitsL_len (l : List UInt8) : (bitsL l).length = 8 * l.length := by
  induction l with
  | nil => rfl
  | cons c l ih => rw [bitsL_cons, List.length_append, ih, List.length_cons]; show 8 + _ = _; omega
def remL (r : BitVec 32) (l : List UInt8) : BitVec 32 := remB r (bitsL l)
theorem remL_append (r : BitVec 32) (a b : List UInt8) : remL r (a ++ b) = remL (remL r a) b := by unfold remL; rw [bitsL_append, remB_append]
theorem remL_snoc (r : BitVec 32) (a : List UInt8) (c : UInt8) : remL r (a ++ [c]) = remB (remL r a) (bitsN c.toNat) := by rw [remL_append]; unfold remL; rw [bitsL_cons, bitsL_nil, List.append_nil]
end Go.Proofs.YtbibgffgljojgaaDoor
