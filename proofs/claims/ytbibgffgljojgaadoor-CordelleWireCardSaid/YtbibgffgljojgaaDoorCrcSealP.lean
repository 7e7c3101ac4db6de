/- Sealed texts and short bursts, in plain Lean: four bytes make a remainder 0; no burst of at most 32 bits keeps it. No condition. -/
import Derived.Test.YtbibgffgljojgaaDoorCrcTurnP
namespace Go.Proofs.YtbibgffgljojgaaDoor

def valB (a : Nat) (l : List Bool) : Nat := l.foldl (fun n b => 2 * n + b01 b) a
theorem valB_snoc (a : Nat) (l : List Bool) (b : Bool) : valB a (l ++ [b]) = 2 * valB a l + b01 b := by unfold valB; rw [List.foldl_append]; rfl
theorem valB_append (a : Nat) (l m : List Bool) : valB a (l ++ m) = valB (valB a l) m := by unfold valB; rw [List.foldl_append]
theorem b01_test (b j : Nat) : b01 (b.testBit j) = b / 2 ^ j % 2 := by
  rw [Nat.testBit_eq_decide_div_mod_eq]
  rcases Nat.mod_two_eq_zero_or_one (b / 2 ^ j) with h | h <;> rw [h] <;> rfl
theorem valB_byte (a b : Nat) (hb : b < 256) : valB a (bitsN b) = a * 256 + b := by
  unfold valB bitsN
  simp only [List.foldl_cons, List.foldl_nil, b01_test]
  omega
theorem take_snocB (l : List Bool) (k : Nat) (h : k < l.length) : l.take (k + 1) = l.take k ++ [l[k]] := by rw [List.take_succ_eq_append_getElem h]
theorem b01_le (b : Bool) : b01 b ≤ 1 := by cases b <;> decide
theorem remB_take (l : List Bool) : ∀ k, k ≤ l.length → k ≤ 32 → (remB 0#32 (l.take k)).toNat = valB 0 (l.take k) ∧ valB 0 (l.take k) < 2 ^ k
  | 0, _, _ => by simp [remB, valB]
  | k + 1, h1, h2 => by
    obtain ⟨e, hl⟩ := remB_take l k (by omega) (by omega)
    rw [take_snocB l k h1, remB_snoc, valB_snoc]
    have h31 : 2 ^ k ≤ 2 ^ 31 := Nat.pow_le_pow_right (by omega) (by omega)
    have hb := b01_le l[k]
    rw [step_small _ _ (by rw [e]; omega), e]
    exact ⟨rfl, by rw [Nat.pow_succ]; omega⟩
theorem remB_val (l : List Bool) (h : l.length ≤ 32) : (remB 0#32 l).toNat = valB 0 l := by
  have := (remB_take l l.length (Nat.le_refl _) h).1
  rwa [List.take_length] at this
theorem valB_zero (l : List Bool) (a : Nat) (h : valB a l = 0) : a = 0 ∧ ∀ b ∈ l, b = false := by
  induction l generalizing a with
  | nil => exact ⟨h, fun b hb => by cases hb⟩
  | cons x l ih =>
    obtain ⟨h1, h2⟩ := ih (2 * a + b01 x) h
    have hx : x = false := by cases x <;> simp [b01] at h1 ⊢
    refine ⟨by omega, fun b hb => ?_⟩
    rcases List.mem_cons.1 hb with rfl | hb
    · exact hx
    · exact h2 b hb

theorem ups_xor (n : Nat) (a b : BitVec 32) : ups n (a ^^^ b) = ups n a ^^^ ups n b := by
  induction n generalizing a b with
  | zero => rfl
  | succ n ih => show ups n (crcUp (a ^^^ b)) = ups n (crcUp a) ^^^ ups n (crcUp b); rw [crcUp_xor, ih]
theorem zip_false (l : List Bool) : List.zipWith (· ^^ ·) (List.replicate l.length false) l = l := by
  induction l with
  | nil => rfl
  | cons x l ih => rw [List.length_cons, List.replicate_succ, List.zipWith_cons_cons, ih]; simp
theorem remB_state (x : BitVec 32) (l : List Bool) : remB x l = ups l.length x ^^^ remB 0#32 l := by
  have h := remB_xor (List.replicate l.length false) l x 0#32 (by simp)
  rw [zip_false, BitVec.xor_zero, remB_zeros] at h
  exact h

def field (f : BitVec 32) : List UInt8 := [UInt8.ofNat (f.toNat / 16777216), UInt8.ofNat (f.toNat / 65536 % 256), UInt8.ofNat (f.toNat / 256 % 256), UInt8.ofNat (f.toNat % 256)]
theorem field_rem (f : BitVec 32) : remB 0#32 (bitsL (field f)) = f := by
  apply BitVec.eq_of_toNat_eq
  have hf := f.isLt
  rw [remB_val _ (by rw [bitsL_len]; exact Nat.le_refl 32)]
  unfold field
  rw [bitsL_cons, bitsL_cons, bitsL_cons, bitsL_cons, bitsL_nil, List.append_nil, valB_append, valB_append, valB_append]
  rw [valB_byte _ _ (UInt8.toNat_lt _), valB_byte _ _ (UInt8.toNat_lt _), valB_byte _ _ (UInt8.toNat_lt _), valB_byte _ _ (UInt8.toNat_lt _)]
  simp only [UInt8.toNat_ofNat']
  omega
def sealF (head tail : List UInt8) : BitVec 32 := dns (8 * tail.length) (remL 0#32 (head ++ [0, 0, 0, 0] ++ tail))
def sealL (head tail : List UInt8) : List UInt8 := head ++ field (sealF head tail) ++ tail
theorem zeros_bits : bitsL [0, 0, 0, 0] = List.replicate 32 false := by decide
theorem field_len (f : BitVec 32) : (bitsL (field f)).length = 32 := by rw [bitsL_len]; rfl
theorem seal_rem (head tail : List UInt8) : remL 0#32 (sealL head tail) = 0#32 := by
  have hr : ∀ m : List UInt8, (bitsL m).length = 32 → remL 0#32 (head ++ m ++ tail) = ups (8 * tail.length) (ups 32 (remL 0#32 head)) ^^^ ups (8 * tail.length) (remB 0#32 (bitsL m)) ^^^ remL 0#32 tail := fun m hm => by
    rw [remL_append, remL_append]
    show remB (remB (remL 0#32 head) (bitsL m)) (bitsL tail) = _
    rw [remB_state _ (bitsL tail), remB_state _ (bitsL m), hm, bitsL_len, ups_xor]
    rfl
  unfold sealL
  rw [hr _ (field_len _), field_rem]
  have h0 := hr [0, 0, 0, 0] (by rw [zeros_bits]; rfl)
  have hz : remB 0#32 (bitsL [0, 0, 0, 0]) = 0#32 := by rw [zeros_bits, remB_zeros, ups_zero]
  rw [hz, ups_zero, BitVec.xor_zero] at h0
  have hf : ups (8 * tail.length) (sealF head tail) = remL 0#32 (head ++ [0, 0, 0, 0] ++ tail) := by unfold sealF; rw [ups_dns]
  rw [hf, h0, BitVec.xor_assoc, BitVec.xor_assoc, BitVec.xor_self, BitVec.xor_zero, BitVec.xor_self]
/-- Another byte at one place, and it is right no more. -/
theorem flip_rem (l m : List UInt8) (c : UInt8) (h : remL 0#32 (l ++ [c] ++ m) = 0#32) : remL 0#32 (l ++ [c ^^^ 1] ++ m) ≠ 0#32 := by
  have hr : ∀ d : UInt8, remL 0#32 (l ++ [d] ++ m) = ups (8 * m.length) (ups 8 (remL 0#32 l)) ^^^ ups (8 * m.length) (remB 0#32 (bitsN d.toNat)) ^^^ remL 0#32 m := fun d => by
    rw [remL_append, remL_append]
    show remB (remB (remL 0#32 l) (bitsL [d])) (bitsL m) = _
    rw [bitsL_cons, bitsL_nil, List.append_nil, remB_state _ (bitsL m), remB_state _ (bitsN d.toNat), bitsL_len, ups_xor]
    rfl
  intro h2
  replace h2 := h2.trans h.symm
  rw [hr, hr, BitVec.xor_assoc, BitVec.xor_assoc (ups _ _)] at h2
  have h3 := congrArg (fun x => ups (8 * m.length) (ups 8 (remL 0#32 l)) ^^^ x) h2
  simp only [← BitVec.xor_assoc, BitVec.xor_self, BitVec.zero_xor] at h3
  have h4 := congrArg (fun x => x ^^^ remL 0#32 m) h3
  simp only [BitVec.xor_assoc, BitVec.xor_self, BitVec.xor_zero] at h4
  have h5 := congrArg BitVec.toNat (ups_inj h4)
  rw [remB_val _ (by show 8 ≤ 32; decide), remB_val _ (by show 8 ≤ 32; decide), valB_byte _ _ (UInt8.toNat_lt _), valB_byte _ _ (UInt8.toNat_lt _)] at h5
  have h6 : (c ^^^ 1).toNat = c.toNat := by omega
  rw [UInt8.toNat_xor] at h6
  have h7 := congrArg (fun n => n.testBit 0) h6
  simp only [Nat.testBit_xor] at h7
  revert h7
  have : (UInt8.toNat 1).testBit 0 = true := by decide
  rw [this]
  cases c.toNat.testBit 0 <;> simp

theorem bits_bitA (s : ByteArray) : bitsL s.data.toList = (List.range (8 * s.size)).map (bitA s) := by
  apply List.ext_getElem
  · rw [bitsL_len]; simp
  · intro i h1 h2
    have hi : i < 8 * s.size := by simpa using h2
    have := bitsL_bitA s i hi
    rw [List.getD_eq_getElem?_getD, List.getElem?_eq_getElem h1] at this
    simpa using this
theorem IsTurn.rem {s t : ByteArray} {at_ : Nat} {mask : BitVec 32} (h : IsTurn s t at_ mask) :
    remL 0#32 t.data.toList = remL 0#32 s.data.toList ^^^ remB 0#32 ((List.range (8 * s.size)).map (tbit at_ mask)) := by
  unfold remL
  rw [bits_bitA t, bits_bitA s, h.1, ← remB_xor _ _ _ _ (by simp)]
  show _ = remB 0#32 _
  congr 1
  apply List.ext_getElem
  · simp
  · intro i h1 h2
    have hi : i < 8 * s.size := by simpa using h1
    simp [h.2 i hi]
theorem rem_turned (n at_ : Nat) (mask : BitVec 32) (h : remB 0#32 ((List.range n).map (tbit at_ mask)) = 0#32) : ∀ i, i < n → tbit at_ mask i = false := by
  obtain ⟨D, hD⟩ : ∃ D, (List.range n).map (tbit at_ mask) = D := ⟨_, rfl⟩
  have hl : D.length = n := by rw [← hD]; simp
  have hg : ∀ i (hi : i < D.length), D[i] = tbit at_ mask i := fun i hi => by subst hD; simp
  rw [hD] at h
  have h1 : D.take at_ = List.replicate (D.take at_).length false := by
    apply List.ext_getElem
    · simp
    · intro i p q
      have hi : i < at_ := by simp at p; omega
      rw [List.getElem_take, List.getElem_replicate, hg]
      have : ¬ at_ ≤ i := by omega
      simp [tbit, this]
  have h2 : D.drop (at_ + 32) = List.replicate (D.drop (at_ + 32)).length false := by
    apply List.ext_getElem
    · simp
    · intro i p q
      rw [List.getElem_drop, List.getElem_replicate, hg]
      have : ¬ at_ + 32 + i < at_ + 32 := by omega
      simp [tbit, this]
  have hs : D = D.take at_ ++ ((D.drop at_).take 32 ++ D.drop (at_ + 32)) := by
    rw [← List.drop_drop, List.take_append_drop, List.take_append_drop]
  rw [hs, remB_append, remB_append, h1, remB_zeros, ups_zero, h2, remB_zeros] at h
  have h3 : remB 0#32 ((D.drop at_).take 32) = 0#32 := ups_inj (h.trans (ups_zero _).symm)
  have h4 := congrArg BitVec.toNat h3
  rw [remB_val _ (by simp; omega)] at h4
  have h5 := (valB_zero _ _ h4).2
  intro i hi
  by_cases ha : at_ ≤ i
  · by_cases hb : i < at_ + 32
    · have hk : i - at_ < ((D.drop at_).take 32).length := by simp; omega
      have := h5 _ (List.getElem_mem hk)
      rw [List.getElem_take, List.getElem_drop, hg] at this
      rwa [show at_ + (i - at_) = i by omega] at this
    · simp [tbit, hb]
  · simp [tbit, ha]
/-- Of a text that is right each short burst is told. -/
theorem IsTurn.told {s t : ByteArray} {at_ : Nat} {mask : BitVec 32} (h : IsTurn s t at_ mask) (h0 : remL 0#32 s.data.toList = 0#32) : (remL 0#32 t.data.toList = 0#32) ↔ burstI s t = 0 := by
  have hb := h.burst
  constructor
  · intro hr
    rw [h.rem, h0, BitVec.zero_xor] at hr
    have hz := rem_turned _ _ _ hr
    have : ¬ s ≠ t := fun hne => hne (text_ext _ _ h.1.symm (fun i hi => by rw [h.2 i hi, hz i hi]; simp))
    rcases Int.lt_or_le 0 (burstI s t) with h1 | h1
    · exact absurd (hb.2.2.1 h1) this
    · omega
  · intro hn
    have : s = t := by
      by_cases he : s = t
      · exact he
      · have := hb.2.2.2 he; omega
    rw [← this]; exact h0
end Go.Proofs.YtbibgffgljojgaaDoor
