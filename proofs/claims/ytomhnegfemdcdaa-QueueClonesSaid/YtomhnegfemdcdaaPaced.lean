/- Pace.When, walked; the law of its tick. No condition but that the pace is fit. -/
import Derived.Test.YtomhnegfemdcdaaPaceLaws
namespace Go.Proofs.Ytomhnegfemdcdaa
open Go.RowKit BigFrame
attribute [local go_sem ↓] Go.wp_at_zero Go.wp_at_succ

theorem atP_of (r b t l now : Int) (hf : FitP ⟨r, b, t, l⟩) (h0 : l ≤ now) (h1 : now ≤ 1099511627776) (h2 : now - l ≤ 1048576) : atP ⟨r, b, t, l⟩ now = ⟨r, b, min b (t + (now - l) * r), now⟩ := by
  unfold atP
  rw [fitP_id _ hf]
  have hf' := hf
  unfold FitP at hf'
  simp only at hf'
  have e1 : tickP ⟨r, b, t, l⟩ now = now := by unfold tickP clipI; simp only; omega
  rw [e1]
  simp only
  have e2 : min (now - l) 1048576 = now - l := by omega
  rw [e2]
theorem paced_step (r b t l n : Int) (hr1 : 1 ≤ r) (hr2 : r ≤ 64) (hb1 : 40 ≤ b) (hb2 : b ≤ 103) (ht0 : 0 ≤ t) (ht : t ≤ b) (hl0 : 0 ≤ l) (hl : l ≤ 100000) (hn0 : 0 ≤ n) (hn : n ≤ 40) :
    ∃ d k q : Int, max 0 (n - t) = k ∧ (k + r - 1) / r = d ∧ d * r = q ∧ 0 ≤ d ∧ d ≤ 40 ∧ 0 ≤ q ∧ q ≤ 103 ∧ 0 ≤ min b (t + q) - n ∧
      takeP ⟨r, b, t, l⟩ (l + d) n = (⟨r, b, min b (t + q) - n, l + d⟩, true) ∧ (0 < d → ∃ x, takeP ⟨r, b, t, l⟩ (l + d - 1) n = (x, false)) := by
  obtain ⟨k, hk⟩ : ∃ k, max 0 (n - t) = k := ⟨_, rfl⟩
  obtain ⟨d, hd⟩ : ∃ d, (k + r - 1) / r = d := ⟨_, rfl⟩
  obtain ⟨q, hq⟩ : ∃ q, d * r = q := ⟨_, rfl⟩
  have hk0 : 0 ≤ k := by omega
  have hk1 : k ≤ 40 := by omega
  have hdiv := Int.mul_ediv_add_emod (k + r - 1) r
  have hm0 := Int.emod_nonneg (k + r - 1) (show r ≠ 0 by omega)
  have hm1 := Int.emod_lt_of_pos (k + r - 1) (show 0 < r by omega)
  rw [hd] at hdiv
  have hqq : r * d = q := by rw [Int.mul_comm]; exact hq
  rw [hqq] at hdiv
  generalize (k + r - 1) % r = e at *
  have hd0 : 0 ≤ d := by rw [← hd]; exact Int.ediv_nonneg (by omega) (by omega)
  have hd1 : d ≤ 40 := by
    rcases Int.lt_or_le 40 d with h | h
    · exfalso
      have : 41 * r ≤ d * r := Int.mul_le_mul_of_nonneg_right (by omega) (by omega)
      omega
    · exact h
  have hq0 : 0 ≤ q := by rw [← hq]; exact Int.mul_nonneg hd0 (by omega)
  have hf : FitP ⟨r, b, t, l⟩ := by unfold FitP; simp only; omega
  refine ⟨d, k, q, hk, hd, hq, hd0, hd1, hq0, by omega, by omega, ?_, fun hdp => ?_⟩
  · have h := atP_of r b t l (l + d) hf (by omega) (by omega) (by omega)
    have e1 : l + d - l = d := by omega
    rw [e1, hq] at h
    unfold takeP
    rw [h]
    simp only
    have e2 : max 0 n = n := by omega
    rw [e2, if_neg (by omega)]
  · have h := atP_of r b t l (l + d - 1) hf (by omega) (by omega) (by omega)
    have e1 : (l + d - 1 - l) * r = q - r := by
      have : l + d - 1 - l = d - 1 := by omega
      rw [this, Int.sub_mul, hq]; omega
    rw [e1] at h
    unfold takeP
    rw [h]
    simp only
    have e2 : max 0 n = n := by omega
    have hkp : 0 < k := by
      rcases Int.lt_or_le 0 k with h | h
      · exact h
      · exfalso
        have hk00 : k = 0 := by omega
        have : (r - 1) / r = 0 := Int.ediv_eq_zero_of_lt (by omega) (by omega)
        rw [hk00, Int.zero_add] at hd
        omega
    rw [e2, if_pos (by omega)]
    exact ⟨_, rfl⟩
set_option maxHeartbeats 2000000 in
theorem pace_When (p : P4) (hp : FitP p) (n k d : Int) (hn : 0 ≤ n) (hnb : n ≤ p.b) (hk : max 0 (n - p.t) = k) (hd : (k + p.r - 1) / p.r = d) (hd0 : 0 ≤ d) (hs : p.l + d ≤ 1099511627776) (w : World) :
    Calls Try.prog 30 #[.agg #[.int .i64 p.r, .int .i64 p.b, .int .i64 p.t, .int .i64 p.l], .int .i64 n] w fun e w' => e = .returned (.int .i64 (p.l + d)) ∧ Below w.heap.size w w' := by
  have HF := Lib.hid (fun W => pace_fit p p (fitP_id p hp) W)
  unfold FitP at hp
  obtain ⟨pr, pb, pt, pl⟩ := p
  simp only at *
  obtain ⟨a1, a2, a3, a4, a5, a6, a7, a8⟩ := hp
  have w1 : IntKind.i64.wrap (n - pt) = n - pt := IntWalk.i64_in _ (by omega)
  have hk2 : k ≤ 1048576 := by omega
  have hk3 : 0 ≤ k := by omega
  have w2 : IntKind.i64.wrap (k + pr) = k + pr := IntWalk.i64_in _ (by omega)
  have w3 : IntKind.i64.wrap (k + pr - 1) = k + pr - 1 := IntWalk.i64_in _ (by omega)
  have w4 : IntKind.i64.wrap (pl + d) = pl + d := IntWalk.i64_in _ (by omega)
  have q1 : (k + pr - 1).tdiv pr = d := by rw [Int.tdiv_eq_ediv_of_nonneg (by omega)]; exact hd
  have w5 : IntKind.i64.wrap d = d := IntWalk.i64_in _ (by omega)
  have hr0 : pr ≠ 0 := by omega
  have hk' : (if pt < n then n - pt else 0) = k := by rw [← hk]; split <;> omega
  clear hd
  go_enter Try.func30, Try.ntmps30
  go_wp2_with fail
  refine (HF.out _).mono ?_
  rintro e w6 ⟨rfl, hb⟩
  have k1 := (Blk.new w 25 #[.int .i64 pr, .int .i64 pb, .int .i64 pt, .int .i64 pl]).below hb (by simp)
  have B1 : Below w.heap.size w w6 := ((Below.refl _ w).alloc (Nat.le_refl _) _).trans (hb.mono (by simp))
  clear hb
  have c1 := k1.cell
  have f1 := k1.frozen
  simp at c1
  go_upto_region 2 with fail
  obtain ⟨w7, e7, K7, B7, _⟩ := four_set k1 rfl (.int .i64 pr) (.int .i64 pb) (.int .i64 pt) (.int .i64 pl) w.heap.size (Nat.le_refl _)
  rw [e7]
  have B2 := B1.trans B7
  clear e7 k1 c1 f1 B1 B7
  have c7 := K7.cell
  simp at c7
  go_upto_region 5 with fail
  have E0 := fun (gx : Ext w7) => gx.cell (K7.cell 0) K7.lt
  have E3 := fun (gx : Ext w7) => gx.cell (K7.cell 3) K7.lt
  simp at E0 E3
  refine wp_region_ext (by kernel_rfl) (by kernel_rfl) ?_; (repeat (go_big_quiet_step (fail))); refine wpQuiet_nil ?_; rintro _ ⟨gq, rfl⟩
  have B3 := below_then B2 gq.below (Nat.le_refl _)
  go_wp2_with fail
  go_ret
  exact ⟨rfl, B3⟩
end Go.Proofs.Ytomhnegfemdcdaa
