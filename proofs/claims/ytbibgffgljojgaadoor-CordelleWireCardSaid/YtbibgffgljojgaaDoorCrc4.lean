/- The reference's Rem, layer 2's awake, and the statements CrcSpans and CrcRems, walked. No condition but the frame's. -/
import Derived.Test.YtbibgffgljojgaaDoorCrc3
namespace Go.Proofs.YtbibgffgljojgaaDoor
open Go.RowKit

theorem xor_one (m : Nat) : (2 * m) ^^^ 1 = 2 * m + 1 := by
  have h1 : ((2 * m) ^^^ 1) / 2 = m := by rw [Nat.xor_div_two]; simp
  have h2 : ((2 * m) ^^^ 1) % 2 = 1 := by rw [Nat.xor_mod_two_eq_one]; omega
  omega
def b01 (d : Bool) : Nat := if d then 1 else 0
theorem shl_bit (q : BitVec 32) (d : Bool) : (((q <<< 1) ^^^ bit1 d).toNat) = 2 * q.toNat % 4294967296 + b01 d := by
  rw [BitVec.toNat_xor, BitVec.toNat_shiftLeft, Nat.shiftLeft_eq]
  have h1 : q.toNat * 2 ^ 1 % 2 ^ 32 = 2 * (q.toNat % 2147483648) := by omega
  rw [h1]
  cases d
  · simp [bit1, b01]; omega
  · simp only [bit1, b01, if_true]
    rw [show (1#32).toNat = 1 from rfl, xor_one]
    omega
theorem step_small (q : BitVec 32) (d : Bool) (h : q.toNat < 2147483648) : (stepB q d).toNat = 2 * q.toNat + b01 d := by
  have hm : q.msb = false := by rw [BitVec.msb_eq_decide]; simpa using h
  unfold stepB crcUp
  rw [hm]
  simp only [Bool.false_eq_true, if_false]
  rw [shl_bit]; omega
theorem step_great (q : BitVec 32) (d : Bool) (h : 2147483648 ≤ q.toNat) : (stepB q d).toNat = (2 * q.toNat + b01 d - 4294967296) ^^^ 79764919 := by
  have hm : q.msb = true := by rw [BitVec.msb_eq_decide]; simpa using h
  have hq := q.isLt
  unfold stepB crcUp
  rw [hm]
  simp only [if_true]
  rw [BitVec.xor_assoc, BitVec.xor_comm 0x04c11db7#32, ← BitVec.xor_assoc, BitVec.toNat_xor, shl_bit]
  have h2 : 2 * q.toNat % 4294967296 + b01 d = 2 * q.toNat + b01 d - 4294967296 := by omega
  rw [h2]
  rfl

theorem texts_two (a b : ByteArray) : textsL (fun i => if i = 0 then a else b) 2 = a.data.toList ++ b.data.toList := by rw [textsL_succ, textsL_succ]; rfl
theorem rem_a1 : remL 0#32 (textsL (fun _ => ⟨#[1]⟩) 1) = 1#32 := by rw [texts_one]; decide +kernel
theorem rem_a2 : remL 0#32 (textsL (fun i => if i = 0 then ⟨#[1, 0]⟩ else ⟨#[0, 0, 0]⟩) 2) = 0x04c11db7#32 := by rw [texts_two]; decide +kernel
theorem rem_a3 : decide (remL 0#32 (ByteArray.mk #[]).data.toList = 0#32) = true := by decide +kernel
theorem rem_a4 : decide (remL 0#32 (ByteArray.mk #[97]).data.toList = 0#32) = false := by decide +kernel
theorem burst_a : burstI ⟨#[97]⟩ ⟨#[99]⟩ = 1 := by decide +kernel

theorem diffD_comm (a b : ByteArray) : diffD a b = diffD b a := by funext i; unfold diffD; exact Bool.xor_comm _ _
theorem burstI_comm (a b : ByteArray) : burstI a b = burstI b a := by
  unfold burstI
  rw [diffD_comm]
  by_cases h : a.size = b.size
  · rw [if_pos h, if_pos h.symm, h]
  · rw [if_neg h, if_neg (Ne.symm h)]
theorem fl_none (n : Nat) (d : Nat → Bool) (h : ∀ i, i < n → d i = false) : fl n d = (-1, -1) := by
  induction n with
  | zero => rfl
  | succ n ih => rw [fl_succ, h n (by omega), ih (fun i hi => h i (by omega))]; rfl
theorem burstI_self (a : ByteArray) : burstI a a = 0 := by
  unfold burstI spanI
  rw [if_pos rfl, fl_none _ _ (fun i _ => by unfold diffD; simp)]
  rfl

end Go.Proofs.YtbibgffgljojgaaDoor
