/- Package life: New, Sends, Weight and Tick, walked. No condition. -/
import Derived.Test.YthngobikokhdlaaDoorLife5
namespace Go.Proofs.YthngobikokhdlaaDoor
open Go.RowKit BigFrame
attribute [local go_sem ↓] Go.wp_at_zero Go.wp_at_succ

theorem fld_life0 (a b c : Int) (w : World) : (Instr.field 28 (.agg #[.int .i64 a, .int .i64 b, .int .i64 c]) 0).run Tryd.prog w = .ok (.int .i64 a) w := by kernel_rfl
attribute [local go_sem] fld_life0

set_option maxHeartbeats 1000000 in
theorem life_New (n r : Int) (h : tickI n = r) (w : World) :
    Calls Tryd.prog 9 #[.int .i64 n] w fun e w' => e = .returned (.agg #[.int .i64 0, .int .i64 r, .int .i64 0]) ∧ Below w.heap.size w w' := by
  have HT := Lib.hid (fun W => life_tick n r h W)
  clear h
  go_enter Tryd.func9, Tryd.ntmps9
  go_wp2_with (go_at_call 25; ((with_reducible refine (HT.out _).mono ?_); rintro e w' ⟨rfl, rfl⟩))
  refine bodyPost_ret (v := .agg #[.int .i64 0, .int .i64 r, .int .i64 0]) ?_ rfl ⟨rfl, ?_⟩
  · simp [results, Tryd.results9, go_sem]
  · (repeat (first | with_reducible assumption | with_reducible exact Below.refl _ _ | with_reducible refine Below.drew ?_ | with_reducible refine Below.setCell ?_ (by first | exact Nat.le_refl _ | exact Nat.le_add_right _ _ | assumption | omega | (simp; done) | (simp; omega)) _ | with_reducible refine Below.alloc ?_ (by first | exact Nat.le_refl _ | exact Nat.le_add_right _ _ | assumption | omega | (simp; done) | (simp; omega)) _ | refine Below.drew ?_ | refine Below.setCell ?_ (by first | exact Nat.le_refl _ | exact Nat.le_add_right _ _ | assumption | omega | (simp; done) | (simp; omega)) _ | refine Below.alloc ?_ (by first | exact Nat.le_refl _ | exact Nat.le_add_right _ _ | assumption | omega | (simp; done) | (simp; omega)) _))

set_option maxHeartbeats 1000000 in
theorem life_Sends (l : L3) (w : World) :
    Calls Tryd.prog 10 #[.agg #[.int .i64 l.s, .int .i64 l.h, .int .i64 l.k]] w fun e w' => e = .returned (.bool ((knownL l).s != 3)) ∧ Below w.heap.size w w' := by
  obtain ⟨x, hx⟩ : ∃ x, knownL l = x := ⟨_, rfl⟩
  have HK := Lib.hid (fun W => life_known l x hx W)
  rw [hx]
  clear hx
  go_enter Tryd.func10, Tryd.ntmps10
  go_wp2_with fail
  refine (HK.out _).mono ?_
  rintro e w1 ⟨rfl, hb⟩
  go_wp2_with fail
  go_ret
  exact ⟨rfl, ((Below.refl _ w).alloc (Nat.le_refl _) _).trans (hb.mono (by simp))⟩

set_option maxHeartbeats 2000000 in
theorem life_Weight (l : L3) (rate r q : Int) (hr : clipI rate 1 65535 = r) (hq : weightL (knownL l).s r = q) (w : World) :
    Calls Tryd.prog 13 #[.agg #[.int .i64 l.s, .int .i64 l.h, .int .i64 l.k], .int .i64 rate] w fun e w' => e = .returned (.int .i64 q) ∧ Below w.heap.size w w' := by
  obtain ⟨x, hx⟩ : ∃ x, knownL l = x := ⟨_, rfl⟩
  have HK := Lib.hid (fun W => life_known l x hx W)
  have hxk : KnownL x := by rw [← hx]; exact knownL_known l
  have hrb := clip_bd rate 1 65535 (by omega)
  rw [hr] at hrb
  rw [hx] at hq
  have HC := Lib.hid (fun W => life_clip _ _ _ _ hr W)
  clear hx hr
  obtain ⟨r1, r2⟩ := hrb
  obtain ⟨hs, _, _, _⟩ := hxk
  obtain ⟨s, t, k⟩ := x
  simp only at hs hq HK
  have w2 : IntKind.i64.wrap (r / 2) = r / 2 := IntWalk.i64_in _ (by omega)
  have w4 : IntKind.i64.wrap (r / 4) = r / 4 := IntWalk.i64_in _ (by omega)
  have HQ := Lib.hid hq
  clear hq
  go_enter Tryd.func13, Tryd.ntmps13
  go_wp2_with (go_at_call 29; ((with_reducible refine (HC.out _).mono ?_); rintro e w' ⟨rfl, rfl⟩))
  refine (HK.out _).mono ?_
  rintro e w1 ⟨rfl, hb⟩
  have B : Below w.heap.size w w1 := ((Below.refl _ w).alloc (Nat.le_refl _) _).trans (hb.mono (by simp))
  clear hb
  rcases hs with rfl | rfl | rfl | rfl
  all_goals
    go_wp2_with fail
    all_goals
      go_ret
      refine ⟨ret_int ?_, B⟩
      have hq := HQ.out
      unfold weightL at hq
      simp at hq
      omega

set_option maxHeartbeats 4000000 in
theorem life_Tick (l r : L3) (c : C4) (now : Int) (b : Bool) (h : tickL l c now = r) (hb : b = lateL (knownL l) (clipC c) (tickI now)) (w : World) :
    Calls Tryd.prog 11 #[.agg #[.int .i64 l.s, .int .i64 l.h, .int .i64 l.k], .agg #[.int .i64 c.t, .int .i64 c.lo, .int .i64 c.hi, .int .i64 c.st], .int .i64 now] w fun e w' => e = .returned (.tuple #[.agg #[.int .i64 r.s, .int .i64 r.h, .int .i64 r.k], .bool b]) ∧ Below w.heap.size w w' := by
  obtain ⟨x, hx⟩ : ∃ x, knownL l = x := ⟨_, rfl⟩
  obtain ⟨k, hk⟩ : ∃ k, clipC c = k := ⟨_, rfl⟩
  obtain ⟨n, hn⟩ : ∃ n, tickI now = n := ⟨_, rfl⟩
  have hxk : KnownL x := by rw [← hx]; exact knownL_known l
  have hkc : CountC k := by rw [← hk]; exact clipC_count c
  have hnb := tickI_bd now
  unfold tickL at h
  rw [hx, hk, hn] at h hb
  rw [hn] at hnb
  have HC := Lib.hid (fun W => life_Clip c k hk W)
  have HK := Lib.hid (fun W => life_known l x hx W)
  have HT := Lib.hid (fun W => life_tick now n hn W)
  clear hx hk hn
  obtain ⟨x1, x2, x3, x4⟩ := hxk
  obtain ⟨q1, q2, q3, q4, q5, q6, q7⟩ := hkc
  obtain ⟨n1, n2⟩ := hnb
  have hcase : (x.s = 3 ∧ b = false ∧ r = x) ∨ (x.s ≠ 3 ∧ n - x.h ≤ k.t ∧ b = false ∧ r = x) ∨ (x.s ≠ 3 ∧ k.t < n - x.h ∧ b = true ∧ r = ⟨3, x.h, 0⟩) := by
    unfold lateL at h hb
    by_cases h3 : x.s = 3
    · simp [h3] at h hb
      exact .inl ⟨h3, hb, h.symm⟩
    · by_cases h4 : k.t < n - x.h
      · simp [h3, h4] at h hb
        exact .inr (.inr ⟨h3, h4, hb, h.symm⟩)
      · simp [h3, h4] at h hb
        exact .inr (.inl ⟨h3, by omega, hb, h.symm⟩)
  clear h hb x1
  have wn : IntKind.i64.wrap (n - x.h) = n - x.h := IntWalk.i64_in _ (by omega)
  have k4 := ((Blk.new w 28 #[.int .i64 l.s, .int .i64 l.h, .int .i64 l.k]).alloc (.cells #[.int .i64 c.t, .int .i64 c.lo, .int .i64 c.hi, .int .i64 c.st] 34)).alloc (.cells #[.int .i64 0, .int .i64 0, .int .i64 0] 28)
  have k5 := (Blk.new1 w (.cells #[.int .i64 l.s, .int .i64 l.h, .int .i64 l.k] 28) 34 #[.int .i64 c.t, .int .i64 c.lo, .int .i64 c.hi, .int .i64 c.st]).alloc (.cells #[.int .i64 0, .int .i64 0, .int .i64 0] 28)
  have k8 := Blk.new1 (w.alloc (.cells #[.int .i64 l.s, .int .i64 l.h, .int .i64 l.k] 28)) (.cells #[.int .i64 c.t, .int .i64 c.lo, .int .i64 c.hi, .int .i64 c.st] 34) 28 #[.int .i64 0, .int .i64 0, .int .i64 0]
  have B1 : Below w.heap.size w (((w.alloc (.cells #[.int .i64 l.s, .int .i64 l.h, .int .i64 l.k] 28)).alloc (.cells #[.int .i64 c.t, .int .i64 c.lo, .int .i64 c.hi, .int .i64 c.st] 34)).alloc (.cells #[.int .i64 0, .int .i64 0, .int .i64 0] 28)) := (((Below.refl _ w).alloc (Nat.le_refl _) _).alloc (by simp) _).alloc (by simp; omega) _
  simp at k8
  go_enter Tryd.func11, Tryd.ntmps11
  go_upto_region 1 with fail
  generalize (((w.alloc (.cells #[.int .i64 l.s, .int .i64 l.h, .int .i64 l.k] 28)).alloc (.cells #[.int .i64 c.t, .int .i64 c.lo, .int .i64 c.hi, .int .i64 c.st] 34)).alloc (.cells #[.int .i64 0, .int .i64 0, .int .i64 0] 28)) = w1 at *
  have E0 := fun (g : Ext w1) => g.cell (k4.cell 0) k4.lt
  have E1 := fun (g : Ext w1) => g.cell (k4.cell 1) k4.lt
  have E2 := fun (g : Ext w1) => g.cell (k4.cell 2) k4.lt
  have E4 := fun (g : Ext w1) => g.cell (k5.cell 0) k5.lt
  have E5 := fun (g : Ext w1) => g.cell (k5.cell 1) k5.lt
  have E6 := fun (g : Ext w1) => g.cell (k5.cell 2) k5.lt
  have E7 := fun (g : Ext w1) => g.cell (k5.cell 3) k5.lt
  simp at E0 E1 E2 E4 E5 E6 E7
  refine wp_region_ext_tail 4 (by kernel_rfl) (by kernel_rfl) ?_; simp only [List.take_succ_cons, List.take_zero, List.drop_succ_cons, List.drop_zero]; (repeat (go_big_quiet_step ((first | (go_at_call 17; with_reducible exact calls_ext _ (HC.out _)) | (go_at_call 26; with_reducible exact calls_ext _ (HK.out _)))))); refine wpQuiet_nil ?_; rintro _ ⟨gq, rfl⟩
  clear E0 E1 E2 E4 E5 E6 E7
  have p4 := k4.below gq.below k4.lt
  have p5 := k5.below gq.below k5.lt
  have p8 := k8.below gq.below k8.lt
  have B2 := B1.trans (gq.below.mono B1.size)
  generalize gq.world = w2 at p4 p5 p8 B2 ⊢
  clear k4 k5 k8 B1 gq
  have c4 := p4.cell
  have f4 := p4.frozen
  have c5 := p5.cell
  have f5 := p5.frozen
  simp at c4 c5
  obtain ⟨w3, e3, p5', B3, hk3⟩ := four_set p5 rfl (.int .i64 k.t) (.int .i64 k.lo) (.int .i64 k.hi) (.int .i64 k.st) w.heap.size (by omega)
  have p4 := p4.kept hk3 (by omega)
  have p8 := p8.kept hk3 (by omega)
  obtain ⟨w4, e4, p4', B4, hk4⟩ := three_set p4 rfl (.int .i64 x.s) (.int .i64 x.h) (.int .i64 x.k) w.heap.size (Nat.le_refl _)
  have p5' := p5'.kept hk4 (by omega)
  have p8 := p8.kept hk4 (by omega)
  have B5 := (B2.trans B3).trans B4
  rw [← e3] at e4
  clear B2 B3 B4 hk3 hk4 e3 p4 p5
  go_upto_region 2 with fail
  clear e4 c4 f4 c5 f5
  have E0 := fun (g : Ext w4) => g.cell (p4'.cell 0) p4'.lt
  have E1 := fun (g : Ext w4) => g.cell (p4'.cell 1) p4'.lt
  have E4 := fun (g : Ext w4) => g.cell (p5'.cell 0) p5'.lt
  simp at E0 E1 E4
  rcases hcase with ⟨j, rfl, rfl⟩ | ⟨j, j2, rfl, rfl⟩ | ⟨j, j2, rfl, rfl⟩
  · have j1 : (r.s == 3) = true := by simp [j]
    have j3 : decide (r.s = 3) = true := by simp [j]
    refine wp_region_ext (by kernel_rfl) (by kernel_rfl) ?_; (repeat (go_big_quiet_step ((first | (go_at_call 25; with_reducible exact calls_ext_same _ (HT.out _)))))); refine wpQuiet_nil ?_; rintro _ ⟨gq, rfl⟩
    clear E0 E1 E4
    have p4 := p4'.below gq.below p4'.lt
    have p8 := p8.below gq.below p8.lt
    have B6 := B5.trans (gq.below.mono B5.size)
    generalize gq.world = w5 at p4 p8 B6 ⊢
    clear p4' p5' gq B5
    have c4 := p4.cell
    have f4 := p4.frozen
    have c8 := p8.cell
    have f8 := p8.frozen
    simp at c4 c8
    go_wp2_with fail
    refine bodyPost_ret (v := .tuple #[.agg #[.int .i64 r.s, .int .i64 r.h, .int .i64 r.k], .bool false]) ?_ rfl ⟨rfl, ?_⟩
    · simp [results, Tryd.results11, go_sem, c4, c8]
      exact j.symm
    · refine B6.trans ?_
      (repeat (first | with_reducible assumption | with_reducible exact Below.refl _ _ | with_reducible refine Below.drew ?_ | with_reducible refine Below.setCell ?_ (by first | exact Nat.le_refl _ | exact Nat.le_add_right _ _ | assumption | omega | (simp; done) | (simp; omega)) _ | with_reducible refine Below.alloc ?_ (by first | exact Nat.le_refl _ | exact Nat.le_add_right _ _ | assumption | omega | (simp; done) | (simp; omega)) _ | refine Below.drew ?_ | refine Below.setCell ?_ (by first | exact Nat.le_refl _ | exact Nat.le_add_right _ _ | assumption | omega | (simp; done) | (simp; omega)) _ | refine Below.alloc ?_ (by first | exact Nat.le_refl _ | exact Nat.le_add_right _ _ | assumption | omega | (simp; done) | (simp; omega)) _))
  · have j1 : (r.s == 3) = false := by simp [j]
    have j3 : decide (r.s = 3) = false := by simp [j]
    have j4 : decide (n - r.h ≤ k.t) = true := by simp; omega
    refine wp_region_ext (by kernel_rfl) (by kernel_rfl) ?_; (repeat (go_big_quiet_step ((first | (go_at_call 25; with_reducible exact calls_ext_same _ (HT.out _)))))); refine wpQuiet_nil ?_; rintro _ ⟨gq, rfl⟩
    clear E0 E1 E4
    have p4 := p4'.below gq.below p4'.lt
    have p8 := p8.below gq.below p8.lt
    have B6 := B5.trans (gq.below.mono B5.size)
    generalize gq.world = w5 at p4 p8 B6 ⊢
    clear p4' p5' gq B5
    have c4 := p4.cell
    have f4 := p4.frozen
    have c8 := p8.cell
    have f8 := p8.frozen
    simp at c4 c8
    go_wp2_with fail
    refine bodyPost_ret (v := .tuple #[.agg #[.int .i64 r.s, .int .i64 r.h, .int .i64 r.k], .bool false]) ?_ rfl ⟨rfl, ?_⟩
    · simp [results, Tryd.results11, go_sem, c4, c8]
    · refine B6.trans ?_
      (repeat (first | with_reducible assumption | with_reducible exact Below.refl _ _ | with_reducible refine Below.drew ?_ | with_reducible refine Below.setCell ?_ (by first | exact Nat.le_refl _ | exact Nat.le_add_right _ _ | assumption | omega | (simp; done) | (simp; omega)) _ | with_reducible refine Below.alloc ?_ (by first | exact Nat.le_refl _ | exact Nat.le_add_right _ _ | assumption | omega | (simp; done) | (simp; omega)) _ | refine Below.drew ?_ | refine Below.setCell ?_ (by first | exact Nat.le_refl _ | exact Nat.le_add_right _ _ | assumption | omega | (simp; done) | (simp; omega)) _ | refine Below.alloc ?_ (by first | exact Nat.le_refl _ | exact Nat.le_add_right _ _ | assumption | omega | (simp; done) | (simp; omega)) _))
  · have j1 : (x.s == 3) = false := by simp [j]
    have j3 : decide (x.s = 3) = false := by simp [j]
    have j4 : decide (n - x.h ≤ k.t) = false := by simp; omega
    refine wp_region_ext (by kernel_rfl) (by kernel_rfl) ?_; (repeat (go_big_quiet_step ((first | (go_at_call 25; with_reducible exact calls_ext_same _ (HT.out _)))))); refine wpQuiet_nil ?_; rintro _ ⟨gq, rfl⟩
    clear E0 E1 E4
    have p4 := p4'.below gq.below p4'.lt
    have p8 := p8.below gq.below p8.lt
    have B6 := B5.trans (gq.below.mono B5.size)
    generalize gq.world = w5 at p4 p8 B6 ⊢
    clear p4' p5' gq B5
    have c4 := p4.cell
    have f4 := p4.frozen
    have c8 := p8.cell
    have f8 := p8.frozen
    simp at c4 c8
    go_wp2_with fail
    refine bodyPost_ret (v := .tuple #[.agg #[.int .i64 3, .int .i64 x.h, .int .i64 0], .bool true]) ?_ rfl ⟨rfl, ?_⟩
    · simp [results, Tryd.results11, go_sem, c4, c8]
    · refine B6.trans ?_
      (repeat (first | with_reducible assumption | with_reducible exact Below.refl _ _ | with_reducible refine Below.drew ?_ | with_reducible refine Below.setCell ?_ (by first | exact Nat.le_refl _ | exact Nat.le_add_right _ _ | assumption | omega | (simp; done) | (simp; omega)) _ | with_reducible refine Below.alloc ?_ (by first | exact Nat.le_refl _ | exact Nat.le_add_right _ _ | assumption | omega | (simp; done) | (simp; omega)) _ | refine Below.drew ?_ | refine Below.setCell ?_ (by first | exact Nat.le_refl _ | exact Nat.le_add_right _ _ | assumption | omega | (simp; done) | (simp; omega)) _ | refine Below.alloc ?_ (by first | exact Nat.le_refl _ | exact Nat.le_add_right _ _ | assumption | omega | (simp; done) | (simp; omega)) _))
end Go.Proofs.YthngobikokhdlaaDoor
