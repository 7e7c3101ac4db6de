/- Package crc's inner functions and Rem, walked: each computes the plain Lean function named here. No condition but the texts' lengths. -/
import Derived.Test.YtbibgffgljojgaaDoorCrcPlain
import Derived.Laws.BitsAllLaws
namespace Go.Proofs.YtbibgffgljojgaaDoor
open Go.RowKit

theorem bv_xor (a b : BitVec 32) : bits .xor .u32 (a.toNat : Int) (b.toNat : Int) = ((a ^^^ b).toNat : Int) := by
  rw [u32_xor_nat _ _ a.isLt b.isLt, BitVec.toNat_xor]
theorem bv_and (a b : BitVec 32) : bits .and .u32 (a.toNat : Int) (b.toNat : Int) = ((a &&& b).toNat : Int) := by
  rw [u32_and_nat _ _ a.isLt b.isLt, BitVec.toNat_and]
theorem bv_orC (a b : BitVec 32) : bits .or .u32 (a.toNat : Int) (b.toNat : Int) = ((a ||| b).toNat : Int) := by
  rw [u32_or_nat _ _ a.isLt b.isLt, BitVec.toNat_or]
theorem bv_shl1 (a : BitVec 32) : (a.toNat : Int) * (2 : Int) % (4294967296 : Int) = ((a <<< 1).toNat : Int) := by
  rw [BitVec.toNat_shiftLeft, Nat.shiftLeft_eq]; omega
theorem bv_shr1 (a : BitVec 32) : (a.toNat : Int) / (2 : Int) = ((a >>> 1).toNat : Int) := by
  rw [BitVec.toNat_ushiftRight, Nat.shiftRight_eq_div_pow]; omega
theorem poly_int : (79764919 : Int) = ((0x04c11db7#32).toNat : Int) := rfl
theorem top_int : (2147483648 : Int) = ((0x80000000#32).toNat : Int) := rfl
theorem low_int : (1 : Int) = ((1#32).toNat : Int) := rfl
theorem and_top (r : BitVec 32) : bits .and .u32 (r.toNat : Int) 2147483648 = if r.msb then 2147483648 else 0 := by
  rw [top_int, bv_and]
  have h1 : (0x80000000#32) = BitVec.twoPow 32 31 := by decide
  rw [h1, BitVec.and_twoPow, BitVec.msb_eq_getLsbD_last]
  cases h : r.getLsbD (32 - 1) <;> (simp only [Nat.add_one_sub_one, Nat.reduceSub] at h; simp [h])
theorem and_low (r : BitVec 32) : bits .and .u32 (r.toNat : Int) 1 = if r.getLsbD 0 then 1 else 0 := by
  rw [low_int, bv_and]
  have h1 : (1#32) = BitVec.twoPow 32 0 := by decide
  rw [h1, BitVec.and_twoPow]
  cases h : r.getLsbD 0 <;> simp

set_option maxHeartbeats 400000 in
theorem crc_up (r s : BitVec 32) (h : crcUp r = s) (w : World) :
    Calls Tryd.prog 35 #[.int .u32 (r.toNat : Int)] w fun e w' => e = .returned (.int .u32 (s.toNat : Int)) ∧ w = w' := by
  subst h
  have h1 := and_top r
  cases hm : r.msb
  · rw [hm] at h1
    simp only [Bool.false_eq_true, if_false] at h1
    go_enter Tryd.func35, Tryd.ntmps35
    go_wp2
    go_ret
    exact ⟨ret_int (by rw [bv_shl1]; unfold crcUp; rw [hm]; rfl), rfl⟩
  · rw [hm] at h1
    simp only [if_true] at h1
    go_enter Tryd.func35, Tryd.ntmps35
    go_wp2
    go_ret
    exact ⟨ret_int (by rw [bv_shl1, poly_int, bv_xor]; unfold crcUp; rw [hm]; rfl), rfl⟩

set_option maxHeartbeats 400000 in
theorem crc_down (r s : BitVec 32) (h : crcDn r = s) (w : World) :
    Calls Tryd.prog 26 #[.int .u32 (r.toNat : Int)] w fun e w' => e = .returned (.int .u32 (s.toNat : Int)) ∧ w = w' := by
  subst h
  have h1 := and_low r
  cases hm : r.getLsbD 0
  · rw [hm] at h1
    simp only [Bool.false_eq_true, if_false] at h1
    go_enter Tryd.func26, Tryd.ntmps26
    go_wp2
    go_ret
    exact ⟨ret_int (by rw [bv_shr1]; unfold crcDn; rw [hm]; rfl), rfl⟩
  · rw [hm] at h1
    simp only [if_true] at h1
    go_enter Tryd.func26, Tryd.ntmps26
    go_wp2
    go_ret
    exact ⟨ret_int (by rw [poly_int, top_int, bv_xor, bv_shr1, bv_orC]; unfold crcDn; rw [hm]; rfl), rfl⟩

theorem bit_shift (b k : Nat) (hk : k < 8) : b * 2 ^ k % 256 / 128 = b / 2 ^ (7 - k) % 2 := by
  match k, hk with
  | 0, _ => show b * 1 % 256 / 128 = b / 128 % 2; omega
  | 1, _ => show b * 2 % 256 / 128 = b / 64 % 2; omega
  | 2, _ => show b * 4 % 256 / 128 = b / 32 % 2; omega
  | 3, _ => show b * 8 % 256 / 128 = b / 16 % 2; omega
  | 4, _ => show b * 16 % 256 / 128 = b / 8 % 2; omega
  | 5, _ => show b * 32 % 256 / 128 = b / 4 % 2; omega
  | 6, _ => show b * 64 % 256 / 128 = b / 2 % 2; omega
  | 7, _ => show b * 128 % 256 / 128 = b / 1 % 2; omega
theorem bitsN_take (b k : Nat) (hk : k < 8) : (bitsN b).take (k + 1) = (bitsN b).take k ++ [b.testBit (7 - k)] := by
  match k, hk with
  | 0, _ => rfl
  | 1, _ => rfl
  | 2, _ => rfl
  | 3, _ => rfl
  | 4, _ => rfl
  | 5, _ => rfl
  | 6, _ => rfl
  | 7, _ => rfl
theorem step_val (q : BitVec 32) (b k : Nat) (hk : k < 8) : bits .xor .u32 ((crcUp q).toNat : Int) ((b * 2 ^ k % 256 : Nat) / 128 : Int) = ((stepB q (b.testBit (7 - k))).toNat : Int) := by
  have h1 : (((b * 2 ^ k % 256 : Nat) : Int) / 128) = ((b / 2 ^ (7 - k) % 2 : Nat) : Int) := by rw [← bit_shift b k hk]; omega
  rw [h1]
  unfold stepB
  rw [← bv_xor]
  congr 1
  rw [Nat.testBit_eq_decide_div_mod_eq]
  rcases Nat.mod_two_eq_zero_or_one (b / 2 ^ (7 - k)) with h | h <;> rw [h] <;> rfl

set_option maxHeartbeats 1000000 in
theorem crc_one (r s : BitVec 32) (b : Nat) (hb : b < 256) (h : remB r (bitsN b) = s) (w : World) :
    Calls Tryd.prog 15 #[.int .u32 (r.toNat : Int), .int .u8 (b : Int)] w fun e w' => e = .returned (.int .u32 (s.toNat : Int)) ∧ w = w' := by
  have HR := Lib.hid h
  clear h
  go_enter Tryd.func15, Tryd.ntmps15
  go_wp2
  go_loop [0, 1, 5] (fun x y i => ∃ (k c : Nat) (q : BitVec 32), k ≤ 8 ∧ i = .int .i64 k ∧ x = .int .u32 (q.toNat : Int) ∧ y = .int .u8 (c : Int) ∧ c < 256 ∧ Hid (q = remB r ((bitsN b).take k)) ∧ Hid (c = b * 2 ^ k % 256)) (fun _ _ i => 8 - (intOf i).toNat)
  case atStart => exact ⟨0, b, r, by omega, rfl, rfl, rfl, hb, Lib.hid rfl, Lib.hid (by rw [Nat.pow_zero]; omega)⟩
  case round =>
    obtain ⟨k, c, q, hk, rfl, rfl, rfl, hc, HQ, HC⟩ := hrel
    by_cases hlt : k < 8
    · obtain ⟨u, hu⟩ : ∃ u, crcUp q = u := ⟨_, rfl⟩
      have hv := step_val q b k hlt
      rw [hu, ← HC.out] at hv
      obtain ⟨v, hv2⟩ : ∃ v, stepB q (b.testBit (7 - k)) = v := ⟨_, rfl⟩
      rw [hv2] at hv
      have HU := Lib.hid hu
      have HV2 := Lib.hid hv2
      have HV := Lib.hid hv
      clear hu hv2 hv
      go_wp2_with fail
      refine (crc_up q u HU.out _).mono ?_
      rintro e w' ⟨rfl, rfl⟩
      have hv := HV.out
      go_wp2_with fail
      clear hv
      go_round
      case rel =>
        refine ⟨k + 1, c * 2 % 256, v, by omega, by go_num, rfl, ?_, by omega, Lib.hid ?_, Lib.hid ?_⟩
        · congr 1
        · rw [bitsN_take b k hlt, remB_snoc, ← HQ.out, HV2.out]
        · rw [HC.out, Nat.pow_succ, ← Nat.mul_assoc]; omega
      case measure => simp [intOf]; omega
    · obtain rfl : k = 8 := by omega
      go_wp2
      go_ret
      exact ⟨ret_int (by rw [← HR.out, HQ.out]; rfl), rfl⟩

/-- Texts as a list of their bytes, one behind the other. -/
def textsL (ss : Nat → ByteArray) (n : Nat) : List UInt8 := (List.range n).flatMap fun i => (ss i).data.toList
theorem textsL_succ (ss : Nat → ByteArray) (n : Nat) : textsL ss (n + 1) = textsL ss n ++ (ss n).data.toList := by
  unfold textsL; rw [List.range_succ, List.flatMap_append]; simp
theorem take_snoc (s : ByteArray) (k : Nat) (h : k < s.size) : s.data.toList.take (k + 1) = s.data.toList.take k ++ [s[k]] := by
  rw [List.take_succ_eq_append_getElem (by simpa using h)]; rfl

set_option maxHeartbeats 2000000 in
theorem crc_Rem (a : Option Addr) (n c : Nat) (ss : Nat → ByteArray) (r : BitVec 32) (w : World) (hS : SliceOf w a n c 1 (fun i => [.string (ss i)])) (hs : ∀ i, i < n → (ss i).size ≤ maxLen) (h : remL 0#32 (textsL ss n) = r) :
    Calls Tryd.prog 5 #[.slice a n c] w fun e w' => e = .returned (.int .u32 (r.toNat : Int)) ∧ w = w' := by
  have hl := hS.size_le
  have HR := Lib.hid h
  have HS := Lib.hid hS
  have HM := Lib.hid hs
  clear h hS hs
  go_enter Tryd.func5, Tryd.ntmps5
  go_wp2
  go_loop [3, 9] (fun x i => ∃ (k : Nat) (q : BitVec 32), k ≤ n ∧ i = .int .i64 k ∧ x = .int .u32 (q.toNat : Int) ∧ Hid (q = remL 0#32 (textsL ss k))) (fun _ i => n - (intOf i).toNat)
  case atStart => exact ⟨0, 0#32, by omega, rfl, rfl, Lib.hid rfl⟩
  case round =>
    obtain ⟨k, q, hk, rfl, rfl, HQ⟩ := hrel
    by_cases hlt : k < n
    · obtain ⟨b, off, rfl, hb, hc⟩ := HS.out.at1 (by omega)
      have c0 := hc k hlt
      have hsz := HM.out k hlt
      obtain ⟨s, hs⟩ : ∃ s, ss k = s := ⟨_, rfl⟩
      rw [hs] at c0 hsz
      rw [maxLen_eq] at hsz
      have HSS := Lib.hid hs
      have i0 : (0 : Int) ≤ (k : Int) := by omega
      have i1 : (k : Int) < (n : Int) := by omega
      clear hs hc
      go_wp2_with fail
      go_loop [3, 15] (fun x i => ∃ (j : Nat) (p : BitVec 32), j ≤ s.size ∧ i = .int .i64 j ∧ x = .int .u32 (p.toNat : Int) ∧ Hid (p = remL q (s.data.toList.take j))) (fun _ i => s.size - (intOf i).toNat)
      case atStart => exact ⟨0, q, by omega, rfl, rfl, Lib.hid rfl⟩
      case round =>
        obtain ⟨j, p, hj, rfl, rfl, HP⟩ := hrel
        by_cases hlt2 : j < s.size
        · obtain ⟨v, hv⟩ : ∃ v, remB p (bitsN s[j].toNat) = v := ⟨_, rfl⟩
          have HV := Lib.hid hv
          clear hv
          go_wp2_with fail
          refine (crc_one p v s[j].toNat s[j].toNat_lt HV.out _).mono ?_
          rintro e w' ⟨rfl, rfl⟩
          go_wp2_with fail
          go_round
          case rel => exact ⟨j + 1, v, by omega, by go_num, rfl, Lib.hid (by rw [take_snoc s j hlt2, remL_snoc, ← HP.out, HV.out])⟩
          case measure => simp [intOf]; omega
        · obtain rfl : j = s.size := by omega
          go_wp2_with fail
          go_round
          case rel => exact ⟨k + 1, p, by omega, by go_num, rfl, Lib.hid (by rw [textsL_succ, remL_append, ← HQ.out, HP.out, HSS.out, List.take_of_length_le (by simp)])⟩
          case measure => simp [intOf]; omega
    · obtain rfl : k = n := by omega
      go_wp2
      go_ret
      exact ⟨ret_int (by rw [← HR.out, HQ.out]), rfl⟩
end Go.Proofs.YtbibgffgljojgaaDoor
