/- Package delay's Jitter, Late, New and its reference's, walked. No condition. -/
import Derived.Test.YtlockgodmlloeaaDelay
import Derived.StillTailTactics
namespace Go.Proofs.Ytlockgodmlloeaa
open Go.RowKit
attribute [local go_sem ↓] Go.wp_at_zero Go.wp_at_succ

theorem jit_vals (d r : D3) (j : Int) (h : jitD d j = r) : ∃ a b c q : Int, fitD d = ⟨a, b, c⟩ ∧ clipI j 0 1048576 = q ∧ (0 ≤ a ∧ a ≤ b ∧ b ≤ 1048576 ∧ a ≤ c ∧ c ≤ b ∧ 0 ≤ q ∧ q ≤ 1048576) ∧
    r = (if c < min b (a + 4 * q) then ⟨a, b, min b (a + 4 * q)⟩ else if min b (a + 4 * q) < c then ⟨a, b, c - 1⟩ else ⟨a, b, c⟩) := by
  subst h
  have hf := fitD_fit d
  have hj := clip_bd j 0 1048576 (by omega)
  unfold FitD at hf
  refine ⟨(fitD d).a, (fitD d).b, (fitD d).c, clipI j 0 1048576, rfl, rfl, ⟨by omega, by omega, by omega, by omega, by omega, by omega, by omega⟩, ?_⟩
  unfold jitD
  rfl

set_option maxHeartbeats 1000000 in
theorem delay_Jitter (d r : D3) (j : Int) (h : jitD d j = r) (w : World) :
    Calls Try.prog 10 #[.agg #[.int .i64 d.a, .int .i64 d.b, .int .i64 d.c], .int .i64 j] w fun e w' => e = .returned (.agg #[.int .i64 r.a, .int .i64 r.b, .int .i64 r.c]) ∧ Below w.heap.size w w' := by
  obtain ⟨a, b, c, q, hf, hq, ⟨b1, b2, b3, b4, b5, b6, b7⟩, hr⟩ := jit_vals d r j h
  clear h
  have HF := Lib.hid (fun W => delay_fit d _ hf W)
  have HT := Lib.hid (fun W => delay_ticks j _ hq W)
  have HR := Lib.hid hr
  clear hf hq hr
  go_enter Try.func10, Try.ntmps10
  go_wp2_with fail
  refine (HF.out _).mono ?_
  rintro e w1 ⟨rfl, hb⟩
  have k1 := ((Blk.new w 25 #[.int .i64 d.a, .int .i64 d.b, .int .i64 d.c]).alloc (.cells #[.int .i64 0, .int .i64 0, .int .i64 0] 25)).below hb (by simp; omega)
  have k2 := (Blk.new (w.alloc (.cells #[.int .i64 d.a, .int .i64 d.b, .int .i64 d.c] 25)) 25 #[.int .i64 0, .int .i64 0, .int .i64 0]).below hb (by simp)
  simp at k2
  have B1 : Below w.heap.size w w1 := (((Below.refl _ w).alloc (Nat.le_refl _) _).alloc (by simp) _).trans (hb.mono (by simp; omega))
  clear hb
  have c0 := k1.cell 0
  have c1 := k1.cell 1
  have c2 := k1.cell 2
  have f0 := k1.frozen
  simp at c0 c1 c2
  go_wp2_with fail
  obtain ⟨w2, e2, k1', B2, hk⟩ := three_set k1 rfl (.int .i64 a) (.int .i64 b) (.int .i64 c) w.heap.size (Nat.le_refl _)
  rw [e2]
  have k2' : Blk w2 (w.heap.size + 1) 25 #[.int .i64 0, .int .i64 0, .int .i64 0] := (hk _ (by omega)).trans k2
  have B3 := B1.trans B2
  clear e2 B2 hk k1 k2 B1 c0 c1 c2 f0
  have c0 := k1'.cell 0
  have c1 := k1'.cell 1
  have c2 := k1'.cell 2
  have f0 := k1'.frozen
  simp at c0 c1 c2
  have s1 : IntKind.i64.wrap (4 * q) = 4 * q := IntWalk.i64_in _ (by omega)
  have s2 : IntKind.i64.wrap (a + 4 * q) = a + 4 * q := IntWalk.i64_in _ (by omega)
  go_region_held3 (fun w' => w'.cell? ⟨w.heap.size, 0, none⟩ = some (.int .i64 a) ∧ w'.cell? ⟨w.heap.size, 1, none⟩ = some (.int .i64 b)) (go_keep)
    (first | (go_at_call 18; refine (HT.out _).mono ?_; rintro e w' ⟨rfl, rfl⟩))
  clear s1 s2
  obtain ⟨wt, hwt⟩ : ∃ wt, (if a + 4 * q < b then a + 4 * q else b) = wt := ⟨_, rfl⟩
  have hm : min b (a + 4 * q) = wt := by rw [← hwt]; split <;> omega
  have d1 : 0 ≤ wt := by omega
  have d2 : wt ≤ 1048576 := by omega
  rw [hwt]
  have HM := Lib.hid hm
  clear hm hwt
  have r0 := k2'.cell 0
  have r1 := k2'.cell 1
  have r2 := k2'.cell 2
  have g0 := k2'.frozen
  simp at r0 r1 r2
  have hz2 := k2'.lt
  go_wp2
  all_goals
    refine bodyPost_ret (v := .agg #[.int .i64 r.a, .int .i64 r.b, .int .i64 r.c]) ?_ rfl ⟨rfl, ?_⟩
    · rw [HR.out, HM.out]
      first
        | (rw [if_pos (by assumption)]; simp [results, Try.results10, go_sem, r0, r1, r2, c0, c1, c2]; done)
        | (rw [if_neg (by omega), if_pos (by assumption)]; simp [results, Try.results10, go_sem, r0, r1, r2, c0, c1, c2]; done)
        | (rw [if_neg (by omega), if_neg (by omega)]; simp [results, Try.results10, go_sem, r0, r1, r2, c0, c1, c2]; done)
    · (repeat (first | with_reducible assumption | with_reducible exact Below.refl _ _ | with_reducible refine Below.drew ?_ | with_reducible refine Below.setCell ?_ (by first | exact Nat.le_refl _ | exact Nat.le_add_right _ _ | assumption | omega | (simp; done) | (simp; omega)) _ | with_reducible refine Below.alloc ?_ (by first | exact Nat.le_refl _ | exact Nat.le_add_right _ _ | assumption | omega | (simp; done) | (simp; omega)) _ | refine Below.drew ?_ | refine Below.setCell ?_ (by first | exact Nat.le_refl _ | exact Nat.le_add_right _ _ | assumption | omega | (simp; done) | (simp; omega)) _ | refine Below.alloc ?_ (by first | exact Nat.le_refl _ | exact Nat.le_add_right _ _ | assumption | omega | (simp; done) | (simp; omega)) _))

set_option maxHeartbeats 1000000 in
theorem delay_Late (d r : D3) (j : Int) (h : lateD d j = r) (w : World) :
    Calls Try.prog 11 #[.agg #[.int .i64 d.a, .int .i64 d.b, .int .i64 d.c], .int .i64 j] w fun e w' => e = .returned (.agg #[.int .i64 r.a, .int .i64 r.b, .int .i64 r.c]) ∧ Below w.heap.size w w' := by
  obtain ⟨a, b, c, q, hf, hq, ⟨b1, b2, b3, b4, b5, b6, b7⟩, _⟩ := jit_vals d _ j rfl
  have hr : (⟨a, b, min b (c + q)⟩ : D3) = r := by rw [← h]; unfold lateD; rw [hf, hq]
  clear h
  subst hr
  have HF := Lib.hid (fun W => delay_fit d _ hf W)
  have HT := Lib.hid (fun W => delay_ticks j _ hq W)
  clear hf hq
  go_enter Try.func11, Try.ntmps11
  go_wp2_with fail
  refine (HF.out _).mono ?_
  rintro e w1 ⟨rfl, hb⟩
  have k1 := ((Blk.new w 25 #[.int .i64 d.a, .int .i64 d.b, .int .i64 d.c]).alloc (.cells #[.int .i64 0, .int .i64 0, .int .i64 0] 25)).below hb (by simp; omega)
  have k2 := (Blk.new (w.alloc (.cells #[.int .i64 d.a, .int .i64 d.b, .int .i64 d.c] 25)) 25 #[.int .i64 0, .int .i64 0, .int .i64 0]).below hb (by simp)
  simp at k2
  have B1 : Below w.heap.size w w1 := (((Below.refl _ w).alloc (Nat.le_refl _) _).alloc (by simp) _).trans (hb.mono (by simp; omega))
  clear hb
  have c0 := k1.cell 0
  have c1 := k1.cell 1
  have c2 := k1.cell 2
  have f0 := k1.frozen
  simp at c0 c1 c2
  go_wp2_with fail
  obtain ⟨w2, e2, k1', B2, hk⟩ := three_set k1 rfl (.int .i64 a) (.int .i64 b) (.int .i64 c) w.heap.size (Nat.le_refl _)
  rw [e2]
  have k2' : Blk w2 (w.heap.size + 1) 25 #[.int .i64 0, .int .i64 0, .int .i64 0] := (hk _ (by omega)).trans k2
  have B3 := B1.trans B2
  clear e2 B2 hk k1 k2 B1 c0 c1 c2 f0
  have c0 := k1'.cell 0
  have c1 := k1'.cell 1
  have c2 := k1'.cell 2
  have f0 := k1'.frozen
  simp at c0 c1 c2
  have s2 : IntKind.i64.wrap (c + q) = c + q := IntWalk.i64_in _ (by omega)
  refine wp_region_still_tail 9 (by kernel_rfl) (by kernel_rfl) ?_
  simp only [List.take_succ_cons, List.take_zero, List.drop_succ_cons, List.drop_zero]
  repeat still_step
  still_call ((HT.out _).mono fun _ _ hh => ⟨hh.1, hh.2.symm⟩)
  repeat still_step
  refine wpStill_nil ?_
  change wpList _ _ _ _ _ w2.drew
  clear s2
  obtain ⟨wt, hwt⟩ : ∃ wt, (if c + q < b then c + q else b) = wt := ⟨_, rfl⟩
  have hm : min b (c + q) = wt := by rw [← hwt]; split <;> omega
  rw [hwt]
  have HM := Lib.hid hm
  clear hwt hm
  have r0 := k2'.cell 0
  have r1 := k2'.cell 1
  have r2 := k2'.cell 2
  have g0 := k2'.frozen
  simp at r0 r1 r2
  have hz2 := k2'.lt
  go_wp2
  refine bodyPost_ret (v := .agg #[.int .i64 a, .int .i64 b, .int .i64 wt]) ?_ rfl ⟨by rw [HM.out], ?_⟩
  · simp [results, Try.results11, go_sem, r0, r1, r2, c0, c1, c2]
  · (repeat (first | with_reducible assumption | with_reducible exact Below.refl _ _ | with_reducible refine Below.drew ?_ | with_reducible refine Below.setCell ?_ (by first | exact Nat.le_refl _ | exact Nat.le_add_right _ _ | assumption | omega | (simp; done) | (simp; omega)) _ | with_reducible refine Below.alloc ?_ (by first | exact Nat.le_refl _ | exact Nat.le_add_right _ _ | assumption | omega | (simp; done) | (simp; omega)) _ | refine Below.drew ?_ | refine Below.setCell ?_ (by first | exact Nat.le_refl _ | exact Nat.le_add_right _ _ | assumption | omega | (simp; done) | (simp; omega)) _ | refine Below.alloc ?_ (by first | exact Nat.le_refl _ | exact Nat.le_add_right _ _ | assumption | omega | (simp; done) | (simp; omega)) _))

set_option maxHeartbeats 1000000 in
theorem delay_New (a b : Int) (r : D3) (h : fitD ⟨a, b, a⟩ = r) (w : World) :
    Calls Try.prog 12 #[.int .i64 a, .int .i64 b] w fun e w' => e = .returned (.agg #[.int .i64 r.a, .int .i64 r.b, .int .i64 r.c]) ∧ Below w.heap.size w w' := by
  have HF := Lib.hid (fun W => delay_fit ⟨a, b, a⟩ _ h W)
  clear h
  go_enter Try.func12, Try.ntmps12
  go_wp2_with fail
  refine (HF.out _).mono ?_
  rintro e w1 ⟨rfl, hb⟩
  have k1 := (Blk.new w 25 #[.int .i64 0, .int .i64 0, .int .i64 0]).below hb (by simp)
  have B1 : Below w.heap.size w w1 := ((Below.refl _ w).alloc (Nat.le_refl _) _).trans (hb.mono (by simp))
  clear hb
  have c0 := k1.cell 0
  have c1 := k1.cell 1
  have c2 := k1.cell 2
  have f0 := k1.frozen
  simp at c0 c1 c2
  go_wp2
  refine bodyPost_ret (v := .agg #[.int .i64 r.a, .int .i64 r.b, .int .i64 r.c]) ?_ rfl ⟨rfl, ?_⟩
  · simp [results, Try.results12, go_sem, c0, c1, c2]
  · (repeat (first | with_reducible assumption | with_reducible exact Below.refl _ _ | with_reducible refine Below.drew ?_ | with_reducible refine Below.setCell ?_ (by first | exact Nat.le_refl _ | exact Nat.le_add_right _ _ | assumption | omega | (simp; done) | (simp; omega)) _ | with_reducible refine Below.alloc ?_ (by first | exact Nat.le_refl _ | exact Nat.le_add_right _ _ | assumption | omega | (simp; done) | (simp; omega)) _ | refine Below.drew ?_ | refine Below.setCell ?_ (by first | exact Nat.le_refl _ | exact Nat.le_add_right _ _ | assumption | omega | (simp; done) | (simp; omega)) _ | refine Below.alloc ?_ (by first | exact Nat.le_refl _ | exact Nat.le_add_right _ _ | assumption | omega | (simp; done) | (simp; omega)) _))

set_option maxHeartbeats 2000000 in
theorem ref25_Late (d r : D3) (j : Int) (h : lateD d j = r) (w : World) :
    Calls Try.prog 14 #[.agg #[.int .i64 d.a, .int .i64 d.b, .int .i64 d.c], .int .i64 j] w fun e w' => e = .returned (.agg #[.int .i64 r.a, .int .i64 r.b, .int .i64 r.c]) ∧ Below w.heap.size w w' := by
  obtain ⟨a, b, c, q, hf, hq, ⟨b1, b2, b3, b4, b5, b6, b7⟩, _⟩ := jit_vals d _ j rfl
  have hr : (⟨a, b, min b (c + q)⟩ : D3) = r := by rw [← h]; unfold lateD; rw [hf, hq]
  clear h
  subst hr
  have HF := Lib.hid (fun W => ref25_Fit d _ hf W)
  have hqc := clip_cases _ _ _ _ (by omega) hq
  clear hf hq
  rcases hqc with ⟨s1, s2⟩ | ⟨s1, s3, s2⟩ | ⟨s1, s2⟩
  all_goals
    subst s2
    go_enter Try.func14, Try.ntmps14
    go_wp2_with fail
    refine (HF.out _).mono ?_
    rintro e w1 ⟨rfl, hb⟩
    have k2 := (Blk.new (w.alloc (.cells #[.int .i64 d.a, .int .i64 d.b, .int .i64 d.c] 23)) 23 #[.int .i64 0, .int .i64 0, .int .i64 0]).below hb (by simp)
    simp at k2
    have B1 : Below w.heap.size w w1 := (((Below.refl _ w).alloc (Nat.le_refl _) _).alloc (by simp) _).trans (hb.mono (by simp; omega))
    have hz := hb.size
    simp at hz
    clear hb
    have r0 := k2.cell
    have g0 := k2.frozen
    have r1 := fun o => (k2.alloc o).cell
    have g1 := fun o => (k2.alloc o).frozen
    go_wp2
    all_goals
      refine bodyPost_ret (v := .agg #[.int .i64 a, .int .i64 b, .int .i64 (min b _)]) ?_ rfl ⟨rfl, ?_⟩
      · simp [results, Try.results14, go_sem, r0, r1]
        omega
      · (repeat (first | with_reducible assumption | with_reducible exact Below.refl _ _ | with_reducible refine Below.drew ?_ | with_reducible refine Below.setCell ?_ (by first | exact Nat.le_refl _ | exact Nat.le_add_right _ _ | assumption | omega | (simp; done) | (simp; omega)) _ | with_reducible refine Below.alloc ?_ (by first | exact Nat.le_refl _ | exact Nat.le_add_right _ _ | assumption | omega | (simp; done) | (simp; omega)) _ | refine Below.drew ?_ | refine Below.setCell ?_ (by first | exact Nat.le_refl _ | exact Nat.le_add_right _ _ | assumption | omega | (simp; done) | (simp; omega)) _ | refine Below.alloc ?_ (by first | exact Nat.le_refl _ | exact Nat.le_add_right _ _ | assumption | omega | (simp; done) | (simp; omega)) _))

set_option maxHeartbeats 2000000 in
theorem ref25_Jitter (d r : D3) (j : Int) (h : jitD d j = r) (w : World) :
    Calls Try.prog 15 #[.agg #[.int .i64 d.a, .int .i64 d.b, .int .i64 d.c], .int .i64 j] w fun e w' => e = .returned (.agg #[.int .i64 r.a, .int .i64 r.b, .int .i64 r.c]) ∧ Below w.heap.size w w' := by
  obtain ⟨a, b, c, q, hf, hq, ⟨b1, b2, b3, b4, b5, b6, b7⟩, hr⟩ := jit_vals d r j h
  clear h
  have HF := Lib.hid (fun W => ref25_Fit d _ hf W)
  have hqc := clip_cases _ _ _ _ (by omega) hq
  clear hf hq
  have HR := Lib.hid hr
  clear hr
  rcases hqc with ⟨s1, s2⟩ | ⟨s1, s3, s2⟩ | ⟨s1, s2⟩
  all_goals
    subst s2
    go_enter Try.func15, Try.ntmps15
    go_wp2_with fail
    refine (HF.out _).mono ?_
    rintro e w1 ⟨rfl, hb⟩
    have k2 := (Blk.new (w.alloc (.cells #[.int .i64 d.a, .int .i64 d.b, .int .i64 d.c] 23)) 23 #[.int .i64 0, .int .i64 0, .int .i64 0]).below hb (by simp)
    simp at k2
    have B1 : Below w.heap.size w w1 := (((Below.refl _ w).alloc (Nat.le_refl _) _).alloc (by simp) _).trans (hb.mono (by simp; omega))
    have hz := hb.size
    simp at hz
    clear hb
    have r0 := k2.cell
    have g0 := k2.frozen
    have r1 := fun o => (k2.alloc o).cell
    have g1 := fun o => (k2.alloc o).frozen
    go_wp2
    all_goals
      refine bodyPost_ret (v := .agg #[.int .i64 r.a, .int .i64 r.b, .int .i64 r.c]) ?_ rfl ⟨rfl, ?_⟩
      · rw [HR.out]
        first
          | (rw [if_pos (by omega)]; simp [results, Try.results15, go_sem, r0, r1]; omega)
          | (rw [if_neg (by omega), if_pos (by omega)]; simp [results, Try.results15, go_sem, r0, r1]; done)
          | (rw [if_neg (by omega), if_neg (by omega)]; simp [results, Try.results15, go_sem, r0, r1]; done)
      · (repeat (first | with_reducible assumption | with_reducible exact Below.refl _ _ | with_reducible refine Below.drew ?_ | with_reducible refine Below.setCell ?_ (by first | exact Nat.le_refl _ | exact Nat.le_add_right _ _ | assumption | omega | (simp; done) | (simp; omega)) _ | with_reducible refine Below.alloc ?_ (by first | exact Nat.le_refl _ | exact Nat.le_add_right _ _ | assumption | omega | (simp; done) | (simp; omega)) _ | refine Below.drew ?_ | refine Below.setCell ?_ (by first | exact Nat.le_refl _ | exact Nat.le_add_right _ _ | assumption | omega | (simp; done) | (simp; omega)) _ | refine Below.alloc ?_ (by first | exact Nat.le_refl _ | exact Nat.le_add_right _ _ | assumption | omega | (simp; done) | (simp; omega)) _))
end Go.Proofs.Ytlockgodmlloeaa
