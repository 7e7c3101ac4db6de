/- Package pace, walked further: each function computes the plain Lean function named here. No condition. -/
import Derived.Test.YtomhnegfemdcdaaPace0
namespace Go.Proofs.Ytomhnegfemdcdaa
open Go.RowKit
attribute [local go_sem ↓] Go.wp_at_zero Go.wp_at_succ

set_option maxHeartbeats 4000000 in
theorem pace_New (a b n : Int) (r : P4) (h : fitP ⟨a, b, 1048576, n⟩ = r) (w : World) :
    Calls Try.prog 11 #[.int .i64 a, .int .i64 b, .int .i64 n] w fun e w' => e = .returned (.agg #[.int .i64 r.r, .int .i64 r.b, .int .i64 r.t, .int .i64 r.l]) ∧ Below w.heap.size w w' := by
  have HF := Lib.hid (fun W => pace_fit ⟨a, b, 1048576, n⟩ _ h W)
  clear h
  go_enter Try.func11, Try.ntmps11
  go_wp2_with fail
  refine (HF.out _).mono ?_
  rintro e w1 ⟨rfl, hb⟩
  have k1 := (Blk.new w 25 #[.int .i64 0, .int .i64 0, .int .i64 0, .int .i64 0]).below hb (by simp)
  have B1 : Below w.heap.size w w1 := ((Below.refl _ w).alloc (Nat.le_refl _) _).trans (hb.mono (by simp))
  clear hb
  have c0 := k1.cell
  have f0 := k1.frozen
  simp at c0
  go_wp2
  refine bodyPost_ret (v := .agg #[.int .i64 r.r, .int .i64 r.b, .int .i64 r.t, .int .i64 r.l]) ?_ rfl ⟨rfl, ?_⟩
  · simp [results, Try.results11, go_sem, c0]
  · (repeat (first | with_reducible assumption | with_reducible exact Below.refl _ _ | with_reducible refine Below.drew ?_ | with_reducible refine Below.setCell ?_ (by first | exact Nat.le_refl _ | exact Nat.le_add_right _ _ | assumption | omega | (simp; done) | (simp; omega)) _ | with_reducible refine Below.alloc ?_ (by first | exact Nat.le_refl _ | exact Nat.le_add_right _ _ | assumption | omega | (simp; done) | (simp; omega)) _ | refine Below.drew ?_ | refine Below.setCell ?_ (by first | exact Nat.le_refl _ | exact Nat.le_add_right _ _ | assumption | omega | (simp; done) | (simp; omega)) _ | refine Below.alloc ?_ (by first | exact Nat.le_refl _ | exact Nat.le_add_right _ _ | assumption | omega | (simp; done) | (simp; omega)) _))

theorem at_vals (p r : P4) (now : Int) (h : atP p now = r) : ∃ fr fb ft fl c n m q : Int, fitP p = ⟨fr, fb, ft, fl⟩ ∧ clipI now 0 1099511627776 = c ∧ max c fl = n ∧ min (n - fl) 1048576 = m ∧ m * fr = q ∧
    (1 ≤ fr ∧ fr ≤ 65535 ∧ 1 ≤ fb ∧ fb ≤ 1048576 ∧ 0 ≤ ft ∧ ft ≤ fb ∧ 0 ≤ fl ∧ fl ≤ 1099511627776) ∧ (0 ≤ c ∧ c ≤ 1099511627776) ∧ (fl ≤ n ∧ n ≤ 1099511627776) ∧ (0 ≤ m ∧ m ≤ 1048576) ∧ (0 ≤ q ∧ q ≤ 68718428160) ∧ r = ⟨fr, fb, min fb (ft + q), n⟩ := by
  subst h
  have hf := fitP_fit p
  have hj := clip_bd now 0 1099511627776 (by omega)
  unfold FitP at hf
  refine ⟨(fitP p).r, (fitP p).b, (fitP p).t, (fitP p).l, _, _, _, _, rfl, rfl, rfl, rfl, rfl, hf, hj, by omega, by omega, ⟨Int.mul_nonneg (by omega) (by omega), ?_⟩, rfl⟩
  have h1 : min (max (clipI now 0 1099511627776) (fitP p).l - (fitP p).l) 1048576 ≤ 1048576 := by omega
  exact Int.le_trans (Int.mul_le_mul h1 hf.2.1 (by omega) (by omega)) (by decide)

theorem mx_eq (x y : Int) : (if x < y then y else x) = max x y := by split <;> omega
theorem mn_eq (x y : Int) : (if y < x then y else x) = min x y := by split <;> omega

set_option maxHeartbeats 4000000 in
theorem pace_At (p r : P4) (now : Int) (h : atP p now = r) (w : World) :
    Calls Try.prog 13 #[.agg #[.int .i64 p.r, .int .i64 p.b, .int .i64 p.t, .int .i64 p.l], .int .i64 now] w fun e w' => e = .returned (.agg #[.int .i64 r.r, .int .i64 r.b, .int .i64 r.t, .int .i64 r.l]) ∧ Below w.heap.size w w' := by
  obtain ⟨fr, fb, ft, fl, c, n, m, q, hf, hc, hn, hm, hq, ⟨b1, b2, b3, b4, b5, b6, b7, b8⟩, ⟨b9, b10⟩, ⟨b11, b12⟩, ⟨b13, b14⟩, ⟨b15, b16⟩, hr⟩ := at_vals p r now h
  clear h
  obtain ⟨z, hz⟩ : ∃ z, min fb (ft + q) = z := ⟨_, rfl⟩
  rw [hz] at hr
  rw [← mn_eq] at hz
  subst hr
  have HF := Lib.hid (fun W => pace_fit p _ hf W)
  have HT := Lib.hid (fun W => pace_clip now _ _ _ hc W)
  clear hf hc
  rw [← mx_eq] at hn
  rw [← mn_eq] at hm
  go_enter Try.func13, Try.ntmps13
  go_wp2_with fail
  refine (HF.out _).mono ?_
  rintro e w1 ⟨rfl, hb⟩
  have k1 := ((Blk.new w 25 #[.int .i64 p.r, .int .i64 p.b, .int .i64 p.t, .int .i64 p.l]).alloc (.cells #[.int .i64 0, .int .i64 0, .int .i64 0, .int .i64 0] 25)).below hb (by simp; omega)
  have k2 := (Blk.new (w.alloc (.cells #[.int .i64 p.r, .int .i64 p.b, .int .i64 p.t, .int .i64 p.l] 25)) 25 #[.int .i64 0, .int .i64 0, .int .i64 0, .int .i64 0]).below hb (by simp)
  simp at k2
  have B1 : Below w.heap.size w w1 := (((Below.refl _ w).alloc (Nat.le_refl _) _).alloc (by simp) _).trans (hb.mono (by simp; omega))
  clear hb
  have c0 := k1.cell
  have f0 := k1.frozen
  simp at c0
  go_wp2_with fail
  obtain ⟨w2, e2, k1', B2, hk⟩ := four_set k1 rfl (.int .i64 fr) (.int .i64 fb) (.int .i64 ft) (.int .i64 fl) w.heap.size (Nat.le_refl _)
  rw [e2]
  have k2' : Blk w2 (w.heap.size + 1) 25 #[.int .i64 0, .int .i64 0, .int .i64 0, .int .i64 0] := (hk _ (by omega)).trans k2
  have B3 := B1.trans B2
  clear e2 B2 hk k1 k2 B1 c0 f0
  have c0 := k1'.cell 0
  have c1 := k1'.cell 1
  have c2 := k1'.cell 2
  have c3 := k1'.cell 3
  have f0 := k1'.frozen
  simp at c0 c1 c2 c3
  have s1 : IntKind.i64.wrap (n - fl) = n - fl := IntWalk.i64_in _ (by omega)
  have s2 : IntKind.i64.wrap q = q := IntWalk.i64_in _ (by omega)
  have s3 : IntKind.i64.wrap (ft + q) = ft + q := IntWalk.i64_in _ (by omega)
  refine wp_region_still_tail 4 (by kernel_rfl) (by kernel_rfl) ?_
  simp only [List.take_succ_cons, List.take_zero, List.drop_succ_cons, List.drop_zero]
  repeat still_step
  still_call ((HT.out _).mono fun _ _ hh => ⟨hh.1, hh.2.symm⟩)
  repeat still_step
  refine wpStill_nil ?_
  change wpList _ _ _ _ _ w2.drew
  have hz2 := k2'.lt
  have r0 := k2'.cell
  have g0 := k2'.frozen
  simp at r0
  go_wp2
  refine bodyPost_ret (v := .agg #[.int .i64 fr, .int .i64 fb, .int .i64 z, .int .i64 n]) ?_ rfl ⟨rfl, ?_⟩
  · simp [results, Try.results13, go_sem, r0, c0, c1, c2, c3]
  · (repeat (first | with_reducible assumption | with_reducible exact Below.refl _ _ | with_reducible refine Below.drew ?_ | with_reducible refine Below.setCell ?_ (by first | exact Nat.le_refl _ | exact Nat.le_add_right _ _ | assumption | omega | (simp; done) | (simp; omega)) _ | with_reducible refine Below.alloc ?_ (by first | exact Nat.le_refl _ | exact Nat.le_add_right _ _ | assumption | omega | (simp; done) | (simp; omega)) _ | refine Below.drew ?_ | refine Below.setCell ?_ (by first | exact Nat.le_refl _ | exact Nat.le_add_right _ _ | assumption | omega | (simp; done) | (simp; omega)) _ | refine Below.alloc ?_ (by first | exact Nat.le_refl _ | exact Nat.le_add_right _ _ | assumption | omega | (simp; done) | (simp; omega)) _))

end Go.Proofs.Ytomhnegfemdcdaa
