/- The statement CrcTurnsBack, walked: it returns true. No condition but the frame's. -/
import Derived.Test.YtkopapiblihmmaaCrcTurn
namespace Go.Proofs.Ytkopapiblihmmaa
open Go.RowKit

theorem wf_u32 {n : Int} (h : (Lit.int .u32 n).wf = true) : 0 ≤ n ∧ n ≤ 4294967295 := by
  simp [Lit.wf, IntKind.min, IntKind.max, IntKind.signed, IntKind.bits] at h; omega
theorem mask_of (a : Int) (h : (Lit.int .u32 a).wf = true) : ∃ m : BitVec 32, a = (m.toNat : Int) := by
  obtain ⟨h1, h2⟩ := wf_u32 h
  exact ⟨BitVec.ofNat 32 a.toNat, by rw [BitVec.toNat_ofNat, Nat.mod_eq_of_lt (by omega)]; omega⟩

set_option maxHeartbeats 4000000 in
theorem CrcTurnsBack_walk (a0 : ByteArray) (a1 : Int) (a2 : Int) (w : World) (a0w : a0.size ≤ maxLen) (_a1w : (Lit.int .i64 a1).wf = true) (a2w : (Lit.int .u32 a2).wf = true) :
    Calls Try.prog 6 #[.string a0, .int .i64 a1, .int .u32 a2] w fun e w' => e = .returned (.bool true) ∧ Below w.heap.size w w' := by
  obtain ⟨m, rfl⟩ := mask_of a2 a2w
  clear _a1w a2w
  obtain ⟨s, hs⟩ : ∃ s, cutB a0 60 = s := ⟨_, rfl⟩
  have sz : s.size ≤ 60 := by rw [← hs]; exact (cutB_size a0 60).1
  obtain ⟨k, hk⟩ : ∃ k : Nat, max 0 (min a1 (8 * (s.size : Int))) = (k : Int) := ⟨(max 0 (min a1 (8 * (s.size : Int)))).toNat, by omega⟩
  obtain ⟨t, ht⟩ : ∃ t, turnOf s k m = t := ⟨_, rfl⟩
  have hT : IsTurn s t k m := by rw [← ht]; exact turnOf_is s k m
  obtain ⟨n, hn⟩ : ∃ n, burstI s t = n := ⟨_, rfl⟩
  have hb := hT.burst
  rw [hn] at hb
  obtain ⟨b1, b2, b3⟩ := hb
  have zt : t.size = s.size := hT.1
  have H0 := Lib.hid (fun W => law02_Cut a0 s 60 a0w (by omega) hs W)
  have H1 := Lib.hid (fun W => crc_Turn s t a1 k m (by omega) hk hT W)
  have H2 := Lib.hid (fun W => crc_Burst s t (by omega) (by omega) n hn W)
  have H3 := Lib.hid (fun W => crc_Turn t s a1 k m (by omega) (by rw [zt]; exact hk) hT.back W)
  have hzz : ((t.size : Int) == (s.size : Int)) = true := by rw [zt]; simp
  clear hs hk ht hT hn a0w zt
  by_cases hst : s = t
  · subst hst
    have hn0 : n ≤ 0 := by
      rcases Int.lt_or_le 0 n with h | h
      · exact absurd rfl (b3.1 h)
      · exact h
    clear b3
    go_enter Try.func6, Try.ntmps6
    go_wp2_with fail
    refine (law02_awake _).mono ?_
    rintro e w1 ⟨rfl, hb1⟩
    go_wp2_with fail
    refine (H0.out _).mono ?_
    rintro e w' ⟨rfl, rfl⟩
    go_wp2_with fail
    refine (H1.out _).mono ?_
    rintro e w2 ⟨rfl, hb2⟩
    go_wp2_with fail
    refine (H2.out _).mono ?_
    rintro e w3 ⟨rfl, hb3⟩
    go_wp2_with fail
    refine (H3.out _).mono ?_
    rintro e w4 ⟨rfl, hb4⟩
    have B2 := below_then hb1 hb2 (Nat.le_refl _)
    have B3 := below_then B2 hb3 (Nat.le_refl _)
    have B4 := below_then B3 hb4 (Nat.le_refl _)
    clear B2 B3 hb1 hb2 hb3 hb4
    go_wp2_with fail
    go_ret
    exact ⟨ret_bool (by simp; omega), B4⟩
  · have hn0 : 0 < n := b3.2 hst
    have hne : (s.toList == t.toList) = false := by
      rw [beq_eq_false_iff_ne]
      intro h
      apply hst
      have h1 : s.data.toList = t.data.toList := by rw [← ByteArray.toList_eq, ← ByteArray.toList_eq]; exact h
      cases s; cases t
      simp only [ByteArray.mk.injEq]
      exact Array.toList_inj.1 h1
    clear b3 hst
    go_enter Try.func6, Try.ntmps6
    go_wp2_with fail
    refine (law02_awake _).mono ?_
    rintro e w1 ⟨rfl, hb1⟩
    go_wp2_with fail
    refine (H0.out _).mono ?_
    rintro e w' ⟨rfl, rfl⟩
    go_wp2_with fail
    refine (H1.out _).mono ?_
    rintro e w2 ⟨rfl, hb2⟩
    go_wp2_with fail
    refine (H2.out _).mono ?_
    rintro e w3 ⟨rfl, hb3⟩
    go_wp2_with fail
    refine (H3.out _).mono ?_
    rintro e w4 ⟨rfl, hb4⟩
    have B2 := below_then hb1 hb2 (Nat.le_refl _)
    have B3 := below_then B2 hb3 (Nat.le_refl _)
    have B4 := below_then B3 hb4 (Nat.le_refl _)
    clear B2 B3 hb1 hb2 hb3 hb4
    go_wp2_with fail
    go_ret
    exact ⟨rfl, B4⟩
end Go.Proofs.Ytkopapiblihmmaa
