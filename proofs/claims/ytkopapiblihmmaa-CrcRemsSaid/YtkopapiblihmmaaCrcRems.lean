/- The statement CrcRems, walked: it returns true. No condition but the frame's. -/
import Derived.Test.YtkopapiblihmmaaCrc4
namespace Go.Proofs.Ytkopapiblihmmaa
open Go.RowKit

theorem textsL_len (ss : Nat → ByteArray) (m n : Nat) (h : ∀ i, i < n → (ss i).size ≤ m) : (textsL ss n).length ≤ m * n := by
  induction n with
  | zero => simp [textsL]
  | succ n ih =>
    rw [textsL_succ, List.length_append]
    have h1 := ih (fun i hi => h i (by omega))
    have h2 := h n (by omega)
    have h3 : (ss n).data.toList.length = (ss n).size := by simp
    rw [Nat.mul_succ]; omega

set_option maxHeartbeats 4000000 in
theorem CrcRems_walk (a0a : Option Addr) (a0l a0c : Nat) (a0e0 : Nat → ByteArray) (w : World) (a0S : SliceOf w a0a a0l a0c 1 (fun i => [.string (a0e0 i)])) (a0F0 : ∀ i, i < a0l → (a0e0 i).size ≤ maxLen) :
    Calls Try.prog 3 #[.slice a0a a0l a0c] w fun e w' => e = .returned (.bool true) ∧ Below w.heap.size w w' := by
  have HS := Lib.hid a0S
  have HF := Lib.hid a0F0
  clear a0S a0F0
  go_enter Try.func3, Try.ntmps3
  go_wp2_with fail
  refine (law02_awake _).mono ?_
  rintro e w1 ⟨rfl, hb1⟩
  go_wp2_with fail
  refine (law02_Few a0a a0l a0c a0e0 6 40 _ (HS.out.below hb1) HF.out (by omega) (by omega)).mono ?_
  rintro e w2 ⟨v, rfl, own, hb2⟩
  have B2 := below_then hb1 hb2 (Nat.le_refl _)
  obtain ⟨n, hn⟩ : ∃ n, min a0l 6 = n := ⟨_, rfl⟩
  have hn6 : n ≤ 6 := by omega
  rw [hn] at own
  clear hn hb1 hb2
  obtain ⟨ss, hss⟩ : ∃ ss : Nat → ByteArray, (fun i => cutB (a0e0 i) 40) = ss := ⟨_, rfl⟩
  obtain ⟨a, c, rfl, S⟩ := SliceOf.of_own own (fun i => .string (ss i)) (fun i hi => by rw [cutCells_get _ _ _ _ hi, ← hss])
  have hsz : ∀ i, (ss i).size ≤ 40 := fun i => by rw [← hss]; exact (cutB_size _ _).1
  have HSS := Lib.hid S
  have HZ := Lib.hid hsz
  clear own S hss hsz
  go_wp2_with fail
  go_loop [3, 12] (fun x i => ∃ (k : Nat) (A : ByteArray), k ≤ n ∧ i = .int .i64 k ∧ x = .string A ∧ Hid (A.data.toList = textsL ss k) ∧ A.size ≤ 240) (fun _ i => n - (intOf i).toNat)
  case atStart => exact ⟨0, ⟨#[]⟩, by omega, rfl, rfl, Lib.hid rfl, by decide⟩
  case round =>
    obtain ⟨k, A, hk, rfl, rfl, HA, hA⟩ := hrel
    by_cases hlt : k < n
    · obtain ⟨b, off, rfl, hb, hc⟩ := HSS.out.at1 (by omega)
      have c0 := hc k hlt
      have hz := HZ.out k
      obtain ⟨s, hs⟩ : ∃ s, ss k = s := ⟨_, rfl⟩
      rw [hs] at c0 hz
      have hAs : (A ++ s).data.toList = textsL ss (k + 1) := by
        rw [textsL_succ, ← HA.out, hs]; simp
      have hl := textsL_len ss 40 (k + 1) (fun i _ => HZ.out i)
      have hsum : (A ++ s).size ≤ 240 := by
        rw [← hAs] at hl
        have : (A ++ s).data.toList.length = (A ++ s).size := by simp
        omega
      have HAS := Lib.hid hAs
      have HSUM := Lib.hid hsum
      have i1 : (0 : Int) ≤ (k : Int) := by omega
      have i2 : (k : Int) < (n : Int) := by omega
      clear hAs hl hsum hs hc
      go_wp2_with fail
      go_round
      case rel => exact ⟨k + 1, A ++ s, by omega, by go_num, rfl, HAS, HSUM.out⟩
      case measure => simp [intOf]; omega
    · obtain rfl : k = n := by omega
      obtain ⟨r, hr⟩ : ∃ r, remL 0#32 (textsL ss k) = r := ⟨_, rfl⟩
      have hq := r.isLt
      have hq2 : (r.toNat : Int) ≤ 4294967295 := by omega
      clear hq
      have H1 := Lib.hid (fun W h => crc_Rem a k c ss r W h (fun i _ => by have := HZ.out i; rw [maxLen_eq]; omega) hr)
      have H2 := Lib.hid (fun W => ref02_Rem A r (by omega) (by rw [HA.out, hr]) W)
      have H3 := Lib.hid (fun W => crc_Right A (decide (r = 0#32)) W (by rw [maxLen_eq]; omega) (by rw [HA.out, hr]))
      have hz : ((r.toNat : Int) == 0) = decide (r = 0#32) := by
        rw [Bool.eq_iff_iff]; simp only [beq_iff_eq, decide_eq_true_eq]; rw [← BitVec.toNat_inj]; simp
      obtain ⟨d, hd⟩ : ∃ d, decide (r = 0#32) = d := ⟨_, rfl⟩
      rw [hd] at hz H3
      clear hr hd
      go_wp2_with fail
      refine (H1.out _ HSS.out).mono ?_
      rintro e w' ⟨rfl, rfl⟩
      go_wp2_with fail
      refine (H2.out _).mono ?_
      rintro e w3 ⟨rfl, hb3⟩
      go_wp2_with fail
      refine (H3.out _).mono ?_
      rintro e w4 ⟨rfl, hb4⟩
      go_wp2_with fail
      refine (H2.out _).mono ?_
      rintro e w5 ⟨rfl, hb5⟩
      have B3 := below_then B2 hb3 (Nat.le_refl _)
      have B4 := below_then B3 hb4 (Nat.le_refl _)
      have B5 := below_then B4 hb5 (Nat.le_refl _)
      clear B2 B3 B4 hb3 hb4 hb5
      go_wp2
      go_ret
      exact ⟨ret_bool (by simp), B5⟩
end Go.Proofs.Ytkopapiblihmmaa
