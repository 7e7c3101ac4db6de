/- The statement CrcBursts, walked: it returns true. No condition but the frame's. -/
import Derived.Test.YtkopapiblihmmaaCrcSeal2
import Derived.Test.YtkopapiblihmmaaCrcTurn2
import Derived.Test.YtkopapiblihmmaaCrcTurnsBack
namespace Go.Proofs.Ytkopapiblihmmaa
open Go.RowKit
attribute [local go_sem ↓] Go.wp_at_zero Go.wp_at_succ
attribute [local go_sem] i64_and255

theorem mx_eq' (x y : Int) : (if x < y then y else x) = max x y := by split <;> omega
set_option maxHeartbeats 8000000 in
theorem CrcBursts_walk (a0x0 : ByteArray) (a0x1 : Int) (a0x2 : Int) (a0x3 : Int) (w : World) (a0x0w0 : a0x0.size ≤ maxLen) (_a0x1w0 : (Lit.int .i64 a0x1).wf = true) (_a0x2w0 : (Lit.int .i64 a0x2).wf = true) (a0x3w0 : (Lit.int .u32 a0x3).wf = true) :
    Calls Try.prog 8 #[.agg #[.string a0x0, .int .i64 a0x1, .int .i64 a0x2, .int .u32 a0x3]] w fun e w' => e = .returned (.bool true) ∧ Below w.heap.size w w' := by
  obtain ⟨mk, rfl⟩ := mask_of a0x3 a0x3w0
  clear _a0x1w0 _a0x2w0 a0x3w0
  obtain ⟨s, hs⟩ : ∃ s, cutB a0x0 120 = s := ⟨_, rfl⟩
  have sz : s.size ≤ 120 := by rw [← hs]; exact (cutB_size a0x0 120).1
  have H0 := Lib.hid (fun W => law02_Cut a0x0 s 120 a0x0w0 (by omega) hs W)
  clear hs a0x0w0
  obtain ⟨M, hM⟩ : ∃ M, max 1 ((s.size : Int) - 3) = M := ⟨_, rfl⟩
  have hM1 : 1 ≤ M := by omega
  obtain ⟨k, hk⟩ : ∃ k : Nat, a0x1 % 256 % M = (k : Int) := ⟨(a0x1 % 256 % M).toNat, by have := Int.emod_nonneg (a0x1 % 256) (show M ≠ 0 by omega); omega⟩
  have hkM : (k : Int) < M := by rw [← hk]; exact Int.emod_lt_of_pos _ (by omega)
  have hM2 := hM
  rw [← mx_eq'] at hM2
  have a1 : 0 ≤ a0x1 % 256 := by omega
  by_cases h4 : s.size < 4
  · have H1 := Lib.hid (fun W => crc_Seal_no s (k : Int) (by omega) (by omega) W)
    go_enter Try.func8, Try.ntmps8
    go_wp2_with fail
    refine (law02_awake _).mono ?_
    rintro e w1 ⟨rfl, hb1⟩
    have k1 := (Blk.new w 40 #[.string a0x0, .int .i64 a0x1, .int .i64 a0x2, .int .u32 (mk.toNat : Int)]).below hb1 (by simp)
    have B1 : Below w.heap.size w w1 := ((Below.refl _ w).alloc (Nat.le_refl _) _).trans (hb1.mono (by simp))
    clear hb1
    have E0 := fun (g : Ext w1) => g.cell (k1.cell 0) k1.lt
    have E1 := fun (g : Ext w1) => g.cell (k1.cell 1) k1.lt
    have E2 := fun (g : Ext w1) => g.cell (k1.cell 2) k1.lt
    have E3 := fun (g : Ext w1) => g.cell (k1.cell 3) k1.lt
    simp at E0 E1 E2 E3
    go_upto_region 3 with fail
    refine wp_region_ext (by kernel_rfl) (by kernel_rfl) ?_; (repeat (go_big_quiet_step ((first | (go_at_call 14; with_reducible exact calls_ext_same _ (H0.out _)))))); refine wpQuiet_nil ?_; rintro _ ⟨gq, rfl⟩
    clear E0 E1 E2 E3
    go_wp2_with fail
    refine (H1.out _).mono ?_
    rintro e w' ⟨rfl, rfl⟩
    go_wp2_with fail
    go_ret
    exact ⟨rfl, B1.trans (gq.below.mono B1.size)⟩
  · have hk4 : k + 4 ≤ s.size := by omega
    obtain ⟨t, ht⟩ : ∃ t, sealB s k = t := ⟨_, rfl⟩
    have zt : t.size = s.size := by rw [← ht]; exact sealB_size s k hk4
    have hrem : remL 0#32 t.data.toList = 0#32 := by rw [← ht, sealB_list]; exact seal_rem _ _
    have H1 := Lib.hid (fun W => crc_Seal s t k (by omega) hk4 ht W)
    obtain ⟨p, hp⟩ : ∃ p : Nat, max 0 (min a0x2 (8 * (t.size : Int))) = (p : Int) := ⟨(max 0 (min a0x2 (8 * (t.size : Int)))).toNat, by omega⟩
    obtain ⟨u, hu⟩ : ∃ u, turnOf t p mk = u := ⟨_, rfl⟩
    have hT : IsTurn t u p mk := by rw [← hu]; exact turnOf_is t p mk
    obtain ⟨n, hn⟩ : ∃ n, burstI t u = n := ⟨_, rfl⟩
    have hb := hT.burst
    have htold := hT.told hrem
    rw [hn] at hb htold
    obtain ⟨b1, b2, _⟩ := hb
    have zu : u.size = t.size := hT.1
    have H2 := Lib.hid (fun W => crc_Turn t u a0x2 p mk (by omega) hp hT W)
    have H3 := Lib.hid (fun W => ref02_Burst t u (by omega) (by omega) n hn W)
    have H4 := Lib.hid (fun W => ref02_Turn t u a0x2 p mk (by omega) hp hT W)
    have H5 := Lib.hid (fun W => crc_Burst t u (by omega) (by omega) n hn W)
    have hdec : decide (remL 0#32 u.data.toList = 0#32) = (n == 0) := by
      rw [Bool.eq_iff_iff]; simp only [decide_eq_true_eq, beq_iff_eq]; exact htold
    have H6 := Lib.hid (fun W => crc_Right u (n == 0) W (by rw [maxLen_eq]; omega) hdec)
    obtain ⟨d, hd⟩ : ∃ d, (n == 0) = d := ⟨_, rfl⟩
    rw [hd] at H6
    have hx4 : (4 : Int) ≤ (s.size : Int) := by omega
    clear ht hrem hp hu hT hn htold hdec zt zu h4
    go_enter Try.func8, Try.ntmps8
    go_wp2_with fail
    refine (law02_awake _).mono ?_
    rintro e w1 ⟨rfl, hb1⟩
    have k1 := (Blk.new w 40 #[.string a0x0, .int .i64 a0x1, .int .i64 a0x2, .int .u32 (mk.toNat : Int)]).below hb1 (by simp)
    have B1 : Below w.heap.size w w1 := ((Below.refl _ w).alloc (Nat.le_refl _) _).trans (hb1.mono (by simp))
    clear hb1
    have E0 := fun (g : Ext w1) => g.cell (k1.cell 0) k1.lt
    have E1 := fun (g : Ext w1) => g.cell (k1.cell 1) k1.lt
    have E2 := fun (g : Ext w1) => g.cell (k1.cell 2) k1.lt
    have E3 := fun (g : Ext w1) => g.cell (k1.cell 3) k1.lt
    simp at E0 E1 E2 E3
    go_upto_region 3 with fail
    refine wp_region_ext (by kernel_rfl) (by kernel_rfl) ?_; (repeat (go_big_quiet_step ((first | (go_at_call 14; with_reducible exact calls_ext_same _ (H0.out _)))))); refine wpQuiet_nil ?_; rintro _ ⟨gq, rfl⟩
    clear E0 E1 E2 E3
    have B2 := B1.trans (gq.below.mono B1.size)
    go_wp2_with fail
    refine (H1.out _).mono ?_
    rintro e w2 ⟨rfl, hb2⟩
    have B3 := below_then B2 hb2 (Nat.le_refl _)
    go_wp2_with fail
    refine (H2.out _).mono ?_
    rintro e w3 ⟨rfl, hb3⟩
    have B4 := below_then B3 hb3 (Nat.le_refl _)
    go_wp2_with fail
    refine (H3.out _).mono ?_
    rintro e w4 ⟨rfl, hb4⟩
    have B5 := below_then B4 hb4 (Nat.le_refl _)
    go_wp2_with fail
    refine (H4.out _).mono ?_
    rintro e w5 ⟨rfl, hb5⟩
    have B6 := below_then B5 hb5 (Nat.le_refl _)
    go_wp2_with fail
    refine (H5.out _).mono ?_
    rintro e w6 ⟨rfl, hb6⟩
    have B7 := below_then B6 hb6 (Nat.le_refl _)
    go_wp2_with fail
    refine (H6.out _).mono ?_
    rintro e w7 ⟨rfl, hb7⟩
    have B8 := below_then B7 hb7 (Nat.le_refl _)
    clear hb2 hb3 hb4 hb5 hb6 hb7 B1 B2 B3 B4 B5 B6 B7
    go_wp2_with fail
    go_ret
    exact ⟨ret_bool (by simp), B8⟩
end Go.Proofs.Ytkopapiblihmmaa
