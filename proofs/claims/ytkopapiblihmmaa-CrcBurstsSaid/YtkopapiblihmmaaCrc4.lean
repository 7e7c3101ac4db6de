/- The reference's Rem, layer 2's awake, and the statements CrcSpans and CrcRems, walked. No condition but the frame's. -/
import Derived.Test.YtkopapiblihmmaaCrc3
namespace Go.Proofs.Ytkopapiblihmmaa
open Go.RowKit

theorem xor_one (m : Nat) : (2 * m) ^^^ 1 = 2 * m + 1 := by
  have h1 : ((2 * m) ^^^ 1) / 2 = m := by rw [Nat.xor_div_two]; simp
  have h2 : ((2 * m) ^^^ 1) % 2 = 1 := by rw [Nat.xor_mod_two_eq_one]; omega
  omega
def b01 (d : Bool) : Nat := if d then 1 else 0
theorem shl_bit (q : BitVec 32) (d : Bool) : (((q <<< 1) ^^^ bit1 d).toNat) = 2 * q.toNat % 4294967296 + b01 d := by
  rw [BitVec.toNat_xor, BitVec.toNat_shiftLeft, Nat.shiftLeft_eq]
  have h1 : q.toNat * 2 ^ 1 % 2 ^ 32 = 2 * (q.toNat % 2147483648) := by omega
  rw [h1]
  cases d
  · simp [bit1, b01]; omega
  · simp only [bit1, b01, if_true]
    rw [show (1#32).toNat = 1 from rfl, xor_one]
    omega
theorem step_small (q : BitVec 32) (d : Bool) (h : q.toNat < 2147483648) : (stepB q d).toNat = 2 * q.toNat + b01 d := by
  have hm : q.msb = false := by rw [BitVec.msb_eq_decide]; simpa using h
  unfold stepB crcUp
  rw [hm]
  simp only [Bool.false_eq_true, if_false]
  rw [shl_bit]; omega
theorem step_great (q : BitVec 32) (d : Bool) (h : 2147483648 ≤ q.toNat) : (stepB q d).toNat = (2 * q.toNat + b01 d - 4294967296) ^^^ 79764919 := by
  have hm : q.msb = true := by rw [BitVec.msb_eq_decide]; simpa using h
  have hq := q.isLt
  unfold stepB crcUp
  rw [hm]
  simp only [if_true]
  rw [BitVec.xor_assoc, BitVec.xor_comm 0x04c11db7#32, ← BitVec.xor_assoc, BitVec.toNat_xor, shl_bit]
  have h2 : 2 * q.toNat % 4294967296 + b01 d = 2 * q.toNat + b01 d - 4294967296 := by omega
  rw [h2]
  rfl

set_option maxRecDepth 100000 in
set_option maxHeartbeats 2000000 in
theorem ref02_Rem (s : ByteArray) (r : BitVec 32) (hs : s.size ≤ 100000) (h : remL 0#32 s.data.toList = r) (w : World) :
    Calls Try.prog 12 #[.string s] w fun e w' => e = .returned (.int .i64 (r.toNat : Int)) ∧ Below w.heap.size w w' := by
  have HR := Lib.hid h
  obtain ⟨n, hn⟩ : ∃ n, 8 * s.size = n := ⟨_, rfl⟩
  have hn3 : n ≤ 1000000 := by omega
  have HN := Lib.hid hn
  have HA := Lib.hid hs
  obtain ⟨B, hB⟩ : ∃ B, bitsL s.data.toList = B := ⟨_, rfl⟩
  have hBl : B.length = n := by rw [← hB, bitsL_len, ← hn]; simp
  have HB := Lib.hid hB
  have HBL := Lib.hid hBl
  clear h hn hs hB hBl
  go_enter Try.func12, Try.ntmps12
  go_wp2_with fail
  refine (ref02_Bits s _ HA.out).mono ?_
  rintro e w1 ⟨v1, rfl, own1, B1⟩
  rw [HN.out, HB.out] at own1
  obtain ⟨a1, c1, rfl, S1⟩ := SliceOf.of_own own1 (fun i => .int .i64 (if B.getD i false then 1 else 0)) (fun i hi => bitCells_get _ _ (by rw [HBL.out]; exact hi))
  have H1 := Lib.hid S1
  clear own1 S1
  go_wp2_with fail
  go_loop [3, 9] (fun x i => ∃ (k : Nat) (q : BitVec 32), k ≤ n ∧ i = .int .i64 k ∧ x = .int .i64 (q.toNat : Int) ∧ Hid (q = remB 0#32 (B.take k))) (fun _ i => n - (intOf i).toNat)
  case atStart => exact ⟨0, 0#32, by omega, rfl, rfl, Lib.hid rfl⟩
  case round =>
    obtain ⟨k, q, hk, rfl, rfl, HQ⟩ := hrel
    have hq := q.isLt
    by_cases hlt : k < n
    · obtain ⟨b1, o1, rfl, hb1, hc1⟩ := H1.out.at1 (by omega)
      have d1 := hc1 k hlt
      have hkl : k < B.length := by rw [HBL.out]; exact hlt
      have hsn : remB 0#32 (B.take (k + 1)) = stepB q (B.getD k false) := by
        rw [List.take_succ_eq_append_getElem hkl, remB_snoc, ← HQ.out, List.getD_eq_getElem?_getD, List.getElem?_eq_getElem hkl]; rfl
      generalize B.getD k false = d at *
      obtain ⟨x, hx⟩ : ∃ x : Nat, b01 d = x := ⟨_, rfl⟩
      have hx2 : (if d then (1 : Int) else 0) = (x : Int) := by rw [← hx]; cases d <;> rfl
      have hx1 : x ≤ 1 := by rw [← hx]; cases d <;> decide
      rw [hx2] at d1
      have i1 : (0 : Int) ≤ (k : Int) := by omega
      have i2 : (k : Int) < (n : Int) := by omega
      have HSN := Lib.hid hsn
      clear hsn hx2 hc1 hkl
      by_cases hg : 2147483648 ≤ q.toNat
      · have hst := step_great q d hg
        rw [hx] at hst
        obtain ⟨y, hy⟩ : ∃ y : Nat, 2 * q.toNat + x - 4294967296 = y := ⟨_, rfl⟩
        have hy1 : y < 4294967296 := by omega
        have hyi : (2 * (q.toNat : Int) + (x : Int) - 4294967296) = (y : Int) := by omega
        have hxor : bits .xor .i64 (2 * (q.toNat : Int) + (x : Int) - 4294967296) 79764919 = ((y ^^^ 79764919 : Nat) : Int) := by
          rw [hyi]; exact i64_xorN y 79764919 (by omega) (by omega)
        rw [hy] at hst
        have HST := Lib.hid hst
        have hge : (4294967296 : Int) ≤ 2 * (q.toNat : Int) + (x : Int) := by omega
        clear hst hy hyi hx
        go_wp2_with fail
        go_round
        case rel => exact ⟨k + 1, stepB q d, by omega, by go_num, by rw [HST.out], Lib.hid HSN.out.symm⟩
        case measure => simp [intOf]; omega
      · have hg : q.toNat < 2147483648 := by omega
        have hst := step_small q d hg
        rw [hx] at hst
        have HST := Lib.hid hst
        have hge : decide ((4294967296 : Int) ≤ 2 * (q.toNat : Int) + (x : Int)) = false := by rw [decide_eq_false_iff_not]; omega
        have hq2 : (q.toNat : Int) ≤ 2147483648 := by omega
        clear hst hx hg hq
        go_wp2_with fail
        go_round
        case rel =>
          refine ⟨k + 1, stepB q d, by omega, by go_num, ?_, Lib.hid HSN.out.symm⟩
          rw [HST.out]
          exact congrArg (Value.int .i64) (by omega)
        case measure => simp [intOf]; omega
    · obtain rfl : k = n := by omega
      go_wp2
      go_ret
      refine ⟨ret_int ?_, B1⟩
      rw [← HR.out, HQ.out, List.take_of_length_le (by rw [HBL.out]; exact Nat.le_refl _), ← HB.out]
      rfl

theorem texts_two (a b : ByteArray) : textsL (fun i => if i = 0 then a else b) 2 = a.data.toList ++ b.data.toList := by rw [textsL_succ, textsL_succ]; rfl
theorem rem_a1 : remL 0#32 (textsL (fun _ => ⟨#[1]⟩) 1) = 1#32 := by rw [texts_one]; decide +kernel
theorem rem_a2 : remL 0#32 (textsL (fun i => if i = 0 then ⟨#[1, 0]⟩ else ⟨#[0, 0, 0]⟩) 2) = 0x04c11db7#32 := by rw [texts_two]; decide +kernel
theorem rem_a3 : decide (remL 0#32 (ByteArray.mk #[]).data.toList = 0#32) = true := by decide +kernel
theorem rem_a4 : decide (remL 0#32 (ByteArray.mk #[97]).data.toList = 0#32) = false := by decide +kernel
theorem burst_a : burstI ⟨#[97]⟩ ⟨#[99]⟩ = 1 := by decide +kernel

set_option maxHeartbeats 2000000 in
theorem law02_awake (w : World) :
    Calls Try.prog 9 #[] w fun e w' => e = .returned (.bool true) ∧ Below w.heap.size w w' := by
  go_enter Try.func9, Try.ntmps9
  go_wp2_with fail
  refine (crc_Rem _ 1 1 (fun _ => ⟨#[1]⟩) _ _ (SliceOf.lit1 (Blk.new _ _ _)) (fun _ _ => by decide) rem_a1).mono ?_
  rintro e w1 ⟨rfl, rfl⟩
  go_wp2_with fail
  refine (crc_Rem _ 2 2 (fun i => if i = 0 then ⟨#[1, 0]⟩ else ⟨#[0, 0, 0]⟩) _ _ (by
    have := SliceOf.lit2 (Blk.new1 w (.cells #[.string ⟨#[1]⟩] 9) 9 #[.string ⟨#[1, 0]⟩, .string ⟨#[0, 0, 0]⟩])
    refine ⟨this.1, this.2.1, fun hp => ?_⟩
    obtain ⟨b, off, e, hb, hc⟩ := this.2.2 hp
    refine ⟨b, off, e, hb, fun i hi j v hv => hc i hi j v ?_⟩
    rw [← hv]
    match i, hi with
    | 0, _ => rfl
    | 1, _ => rfl) (fun i _ => by split <;> decide) rem_a2).mono ?_
  rintro e w1 ⟨rfl, rfl⟩
  go_wp2_with fail
  refine (crc_Right _ _ _ (by decide) rem_a3).mono ?_
  rintro e w1 ⟨rfl, hb1⟩
  go_wp2_with fail
  refine (crc_Right _ _ _ (by decide) rem_a4).mono ?_
  rintro e w2 ⟨rfl, hb2⟩
  go_wp2_with fail
  refine (crc_Burst _ _ (by decide) (by decide) _ burst_a _).mono ?_
  rintro e w3 ⟨rfl, hb3⟩
  have B1 : Below w.heap.size w w1 := ((((Below.refl _ w).alloc (Nat.le_refl _) _).alloc (by simp) _)).trans (hb1.mono (by simp; omega))
  have B3 : Below w.heap.size w w3 := (B1.trans (hb2.mono B1.size)).trans (hb3.mono (Nat.le_trans B1.size hb2.size))
  clear hb1 hb2 hb3 B1
  go_wp2
  go_ret
  exact ⟨rfl, B3⟩

theorem diffD_comm (a b : ByteArray) : diffD a b = diffD b a := by funext i; unfold diffD; exact Bool.xor_comm _ _
theorem burstI_comm (a b : ByteArray) : burstI a b = burstI b a := by
  unfold burstI
  rw [diffD_comm]
  by_cases h : a.size = b.size
  · rw [if_pos h, if_pos h.symm, h]
  · rw [if_neg h, if_neg (Ne.symm h)]
theorem fl_none (n : Nat) (d : Nat → Bool) (h : ∀ i, i < n → d i = false) : fl n d = (-1, -1) := by
  induction n with
  | zero => rfl
  | succ n ih => rw [fl_succ, h n (by omega), ih (fun i hi => h i (by omega))]; rfl
theorem burstI_self (a : ByteArray) : burstI a a = 0 := by
  unfold burstI spanI
  rw [if_pos rfl, fl_none _ _ (fun i _ => by unfold diffD; simp)]
  rfl

set_option maxHeartbeats 2000000 in
theorem CrcSpans_walk (a0 : ByteArray) (a1 : ByteArray) (w : World) (a0w : a0.size ≤ maxLen) (a1w : a1.size ≤ maxLen) :
    Calls Try.prog 4 #[.string a0, .string a1] w fun e w' => e = .returned (.bool true) ∧ Below w.heap.size w w' := by
  obtain ⟨a, ha⟩ : ∃ a, cutB a0 40 = a := ⟨_, rfl⟩
  obtain ⟨b, hb⟩ : ∃ b, cutB a1 40 = b := ⟨_, rfl⟩
  have sa : a.size ≤ 100000 := by have := (cutB_size a0 40).1; rw [ha] at this; omega
  have sb : b.size ≤ 100000 := by have := (cutB_size a1 40).1; rw [hb] at this; omega
  obtain ⟨r, hr⟩ : ∃ r, burstI a b = r := ⟨_, rfl⟩
  have HA := Lib.hid (fun W => law02_Cut a0 a 40 a0w (by omega) ha W)
  have HB := Lib.hid (fun W => law02_Cut a1 b 40 a1w (by omega) hb W)
  have H1 := Lib.hid (fun W => crc_Burst a b sa sb r hr W)
  have H2 := Lib.hid (fun W => ref02_Burst a b sa sb r hr W)
  have H3 := Lib.hid (fun W => crc_Burst b a sb sa r (by rw [burstI_comm, hr]) W)
  have H4 := Lib.hid (fun W => crc_Burst a a sa sa 0 (burstI_self a) W)
  clear ha hb hr a0w a1w
  go_enter Try.func4, Try.ntmps4
  go_wp2_with fail
  refine (law02_awake _).mono ?_
  rintro e w1 ⟨rfl, hb1⟩
  go_wp2_with fail
  refine (HA.out _).mono ?_
  rintro e w' ⟨rfl, rfl⟩
  go_wp2_with fail
  refine (HB.out _).mono ?_
  rintro e w' ⟨rfl, rfl⟩
  go_wp2_with fail
  refine (H1.out _).mono ?_
  rintro e w2 ⟨rfl, hb2⟩
  go_wp2_with fail
  refine (H2.out _).mono ?_
  rintro e w3 ⟨rfl, hb3⟩
  go_wp2_with fail
  refine (H3.out _).mono ?_
  rintro e w4 ⟨rfl, hb4⟩
  go_wp2_with fail
  refine (H1.out _).mono ?_
  rintro e w5 ⟨rfl, hb5⟩
  go_wp2_with fail
  refine (H4.out _).mono ?_
  rintro e w6 ⟨rfl, hb6⟩
  have B2 := below_then hb1 hb2 (Nat.le_refl _)
  have B3 := below_then B2 hb3 (Nat.le_refl _)
  have B4 := below_then B3 hb4 (Nat.le_refl _)
  have B5 := below_then B4 hb5 (Nat.le_refl _)
  have B6 := below_then B5 hb6 (Nat.le_refl _)
  clear hb1 hb2 hb3 hb4 hb5 hb6 B2 B3 B4 B5
  go_wp2
  go_ret
  exact ⟨rfl, B6⟩
end Go.Proofs.Ytkopapiblihmmaa
