/- PaceMore, walked: it returns true. No condition but the frame's. -/
import Derived.Test.YtomhnegfemdcdaaPaceLaws
import Derived.Deep.DeepCutAuto
namespace Go.Proofs.Ytomhnegfemdcdaa
open Go.RowKit BigFrame
attribute [local go_sem ↓] Go.wp_at_zero Go.wp_at_succ
attribute [local go_sem] i64_and65535

theorem atP_mono (p : P4) (a b : Int) (h : a ≤ b) : (atP p a).t ≤ (atP p b).t := by
  have hf := fitP_fit p
  unfold FitP at hf
  unfold atP
  simp only
  have h1 : min (tickP (fitP p) a - (fitP p).l) 1048576 ≤ min (tickP (fitP p) b - (fitP p).l) 1048576 := by unfold tickP clipI; omega
  have h2 := Int.mul_le_mul_of_nonneg_right h1 (show 0 ≤ (fitP p).r by omega)
  omega
theorem take_more (p ra rl rb : P4) (now n d less : Int) (ok late few : Bool) (hd : 0 ≤ d) (hl : 0 ≤ less) (h1 : takeP p now n = (ra, ok)) (h2 : takeP p (now + d) n = (rl, late)) (h3 : takeP p now (n - less) = (rb, few)) :
    ok = true → late = true ∧ few = true ∧ ra.t ≤ rb.t := by
  intro hok
  subst hok
  have hm := atP_mono p now (now + d) (by omega)
  unfold takeP at h1 h2 h3
  split at h1
  · injection h1 with _ h; cases h
  · injection h1 with h1 _
    rw [if_neg (by omega)] at h2
    rw [if_neg (by omega)] at h3
    injection h2 with _ h2
    injection h3 with h3 h4
    refine ⟨h2.symm, h4.symm, ?_⟩
    rw [← h1, ← h3]
    simp only
    omega

set_option maxRecDepth 8000 in
set_option maxHeartbeats 8000000 in
theorem PaceMore_walk (a0x0 : Int) (a0x1 : Int) (a0x2 : Int) (a0x3 : Int) (a0x4 : Int) (a0x5 : Int) (a0x6 : Int) (a0x7 : Int) (w : World) (_a0x0w0 : (Lit.int .i64 a0x0).wf = true) (_a0x1w0 : (Lit.int .i64 a0x1).wf = true) (_a0x2w0 : (Lit.int .i64 a0x2).wf = true) (_a0x3w0 : (Lit.int .i64 a0x3).wf = true) (_a0x4w0 : (Lit.int .i64 a0x4).wf = true) (_a0x5w0 : (Lit.int .i64 a0x5).wf = true) (_a0x6w0 : (Lit.int .i64 a0x6).wf = true) (_a0x7w0 : (Lit.int .i64 a0x7).wf = true) :
    Calls Try.prog 4 #[.agg #[.int .i64 a0x0, .int .i64 a0x1, .int .i64 a0x2, .int .i64 a0x3, .int .i64 a0x4, .int .i64 a0x5, .int .i64 a0x6, .int .i64 a0x7]] w fun e w' => e = .returned (.bool true) ∧ Below w.heap.size w w' := by
  clear _a0x0w0 _a0x1w0 _a0x2w0 _a0x3w0 _a0x4w0 _a0x5w0 _a0x6w0 _a0x7w0
  obtain ⟨n, hn⟩ : ∃ n, max (-1099511627776) (min a0x6 1099511627776) = n := ⟨_, rfl⟩
  obtain ⟨n0, hn0⟩ : ∃ n0, max 0 (min a0x3 549755813888) = n0 := ⟨_, rfl⟩
  have b1 : -1099511627776 ≤ n := by omega
  have b2 : n ≤ 1099511627776 := by omega
  have b3 : 0 ≤ n0 := by omega
  have b4 : n0 ≤ 549755813888 := by omega
  obtain ⟨now, hnow⟩ : ∃ now, n0 + a0x4 % 65536 = now := ⟨_, rfl⟩
  have b5 : 0 ≤ now := by omega
  have b6 : now ≤ 549755879424 := by omega
  obtain ⟨d, hd⟩ : ∃ d, a0x5 % 65536 = d := ⟨_, rfl⟩
  have b7 : 0 ≤ d := by omega
  have b8 : d ≤ 65535 := by omega
  obtain ⟨less, hless⟩ : ∃ less, a0x7 % 65536 = less := ⟨_, rfl⟩
  have b9 : 0 ≤ less := by omega
  have b10 : less ≤ 65535 := by omega
  obtain ⟨p, hp⟩ : ∃ p : P4, p = ⟨a0x0, a0x1, a0x2, a0x3⟩ := ⟨_, rfl⟩
  obtain ⟨xa, hxa⟩ : ∃ xa, takeP p now n = xa := ⟨_, rfl⟩
  obtain ⟨ra, ok⟩ := xa
  obtain ⟨xl, hxl⟩ : ∃ xl, takeP p (now + d) n = xl := ⟨_, rfl⟩
  obtain ⟨rl, late⟩ := xl
  obtain ⟨xb, hxb⟩ : ∃ xb, takeP p now (n - less) = xb := ⟨_, rfl⟩
  obtain ⟨rb, few⟩ := xb
  have hmore := take_more p ra rl rb now n d less ok late few b7 b9 hxa hxl hxb
  have HA := Lib.hid (fun W => pace_Take p ra ok now n hxa W)
  have HL := Lib.hid (fun W => pace_Take p rl late (now + d) n hxl W)
  have HB := Lib.hid (fun W => pace_Take p rb few now (n - less) hxb W)
  rw [hp] at HA HL HB
  have HM := Lib.hid hmore
  clear hxa hxl hxb hmore hp p
  obtain ⟨m1, hm1⟩ : ∃ m1, min a0x6 1099511627776 = m1 := ⟨_, rfl⟩
  rw [hm1] at hn
  obtain ⟨m2, hm2⟩ : ∃ m2, min a0x3 549755813888 = m2 := ⟨_, rfl⟩
  rw [hm2] at hn0
  have em1 := hm1
  have en := hn
  have em2 := hm2
  have en0 := hn0
  rw [← mn_eq] at hm1 hm2
  rw [← mx_eq] at hn hn0
  go_enter Try.func4, Try.ntmps4
  go_wp2_with fail
  refine (law19_awake _).mono ?_
  rintro e w1 ⟨rfl, hb1⟩
  have k1 := (Blk.new w 36 #[.int .i64 a0x0, .int .i64 a0x1, .int .i64 a0x2, .int .i64 a0x3, .int .i64 a0x4, .int .i64 a0x5, .int .i64 a0x6, .int .i64 a0x7]).below hb1 (by simp)
  have B1 : Below w.heap.size w w1 := ((Below.refl _ w).alloc (Nat.le_refl _) _).trans (hb1.mono (by simp))
  have k1_c := k1.cell; have k1_f := k1.frozen; have k1_ca := fun o => (k1.alloc o).cell; have k1_fa := fun o => (k1.alloc o).frozen; have k1_cb := fun o o' => ((k1.alloc o).alloc o').cell; have k1_fb := fun o o' => ((k1.alloc o).alloc o').frozen
  clear hb1
  go_upto_region 3 with fail
  go_cut [3, 4, 5, 6] (fun s3 s4 s5 s6 wx => ∃ g3 g4 : Nat, s3 = .pointer (some ⟨g3, 0, none⟩) ∧ s4 = .pointer (some ⟨g4, 0, none⟩) ∧ s5 = .int .i64 n ∧ s6 = .int .i64 a0x7 ∧ Blk wx g3 33 #[.int .i64 a0x0, .int .i64 a0x1, .int .i64 a0x2, .int .i64 a0x3] ∧ Blk wx g4 34 #[.int .i64 a0x4, .int .i64 a0x5] ∧ Below w.heap.size w wx)
  case first =>
    go_region
    · clear k1_c k1_f k1_ca k1_fa k1_cb k1_fb
      go_wp2_with fail
      go_meet
      exact ⟨w1.heap.size, w1.heap.size + 1, rfl, rfl, rfl, rfl, (Blk.new _ _ _).alloc _, Blk.new1 _ _ _ _, ((B1.alloc B1.size _).alloc (Nat.le_trans B1.size (by simp)) _).drew⟩
    · clear k1_c k1_f k1_ca k1_fa k1_cb k1_fb
      go_wp2_with fail
      go_meet
      exact ⟨w1.heap.size + 1, w1.heap.size, rfl, rfl, rfl, rfl, Blk.new1 _ _ _ _, (Blk.new _ _ _).alloc _, ((B1.alloc B1.size _).alloc (Nat.le_trans B1.size (by simp)) _).drew⟩
  case rest =>
    obtain ⟨g3, g4, rfl, rfl, rfl, rfl, k3, k4, B2⟩ := hcut
    clear k1_c k1_f k1_ca k1_fa k1_cb k1_fb
    clear k1 B1
    have c3 := k3.cell
    have c4 := k4.cell
    simp at c3 c4
    go_wp2_with fail
    refine (HA.out _).mono ?_
    rintro e w2 ⟨rfl, hb2⟩
    have k3 := k3.below hb2 k3.lt
    have k4 := k4.below hb2 k4.lt
    have B3 := below_then B2 hb2 (Nat.le_refl _)
    clear hb2 c3 c4
    have k3 := k3.alloc (.cells #[.int .i64 ra.r, .int .i64 ra.b, .int .i64 ra.t, .int .i64 ra.l] 25)
    have k4 := k4.alloc (.cells #[.int .i64 ra.r, .int .i64 ra.b, .int .i64 ra.t, .int .i64 ra.l] 25)
    have k8 := Blk.new w2 25 #[.int .i64 ra.r, .int .i64 ra.b, .int .i64 ra.t, .int .i64 ra.l]
    have B4 := B3.alloc B3.size (.cells #[.int .i64 ra.r, .int .i64 ra.b, .int .i64 ra.t, .int .i64 ra.l] 25)
    go_upto_region 6 with fail
    generalize w2.alloc (.cells #[.int .i64 ra.r, .int .i64 ra.b, .int .i64 ra.t, .int .i64 ra.l] 25) = w3 at *
    have c3 := k3.cell
    have c4 := k4.cell
    simp at c3 c4
    go_wp2_with fail
    refine (HL.out _).mono ?_
    rintro e w4 ⟨rfl, hb4⟩
    have k3 := k3.below hb4 k3.lt
    have k8 := k8.below hb4 k8.lt
    have B5 := below_then B4 hb4 (Nat.le_refl _)
    clear hb4 c3 c4 k4
    have k3 := k3.alloc (.cells #[.int .i64 rl.r, .int .i64 rl.b, .int .i64 rl.t, .int .i64 rl.l] 25)
    have k8 := k8.alloc (.cells #[.int .i64 rl.r, .int .i64 rl.b, .int .i64 rl.t, .int .i64 rl.l] 25)
    have B6 := B5.alloc B5.size (.cells #[.int .i64 rl.r, .int .i64 rl.b, .int .i64 rl.t, .int .i64 rl.l] 25)
    go_upto_region 7 with fail
    generalize w4.alloc (.cells #[.int .i64 rl.r, .int .i64 rl.b, .int .i64 rl.t, .int .i64 rl.l] 25) = w5 at *
    have c3 := k3.cell
    simp at c3
    go_wp2_with fail
    refine (HB.out _).mono ?_
    rintro e w6 ⟨rfl, hb6⟩
    have k8 := k8.below hb6 k8.lt
    have B7 := below_then B6 hb6 (Nat.le_refl _)
    clear hb6 c3 k3
    have k8 := k8.alloc (.cells #[.int .i64 rb.r, .int .i64 rb.b, .int .i64 rb.t, .int .i64 rb.l] 25)
    have k12 := Blk.new w6 25 #[.int .i64 rb.r, .int .i64 rb.b, .int .i64 rb.t, .int .i64 rb.l]
    have B8 := B7.alloc B7.size (.cells #[.int .i64 rb.r, .int .i64 rb.b, .int .i64 rb.t, .int .i64 rb.l] 25)
    go_upto_region 8 with fail
    generalize w6.alloc (.cells #[.int .i64 rb.r, .int .i64 rb.b, .int .i64 rb.t, .int .i64 rb.l] 25) = w7 at *
    have c8 := k8.cell
    have c12 := k12.cell
    simp at c8 c12
    have hm := HM.out
    cases ok
    · clear hm
      go_wp2_with fail
      go_ret
      exact ⟨rfl, B8⟩
    · obtain ⟨h1, h2, h3⟩ := hm rfl
      clear hm
      subst h1 h2
      go_wp2_with fail
      go_ret
      exact ⟨rfl, B8⟩
end Go.Proofs.Ytomhnegfemdcdaa
