/- The reference of package life: Clip, Known, Tick, Weight, walked. No condition. -/
import Derived.Test.YthngobikokhdlaaDoorLife6
namespace Go.Proofs.YthngobikokhdlaaDoor
open Go.RowKit BigFrame
attribute [local go_sem ↓] Go.wp_at_zero Go.wp_at_succ

theorem mxL (x y : Int) : (if x < y then y else x) = max x y := by split <;> omega
theorem mnL (x y : Int) : (if y < x then y else x) = min x y := by split <;> omega

set_option maxHeartbeats 2000000 in
theorem ref17_Clip (c r : C4) (h : clipC c = r) (w : World) :
    Calls Tryd.prog 8 #[.agg #[.int .i64 c.t, .int .i64 c.lo, .int .i64 c.hi, .int .i64 c.st]] w fun e w' => e = .returned (.agg #[.int .i64 r.t, .int .i64 r.lo, .int .i64 r.hi, .int .i64 r.st]) ∧ Below w.heap.size w w' := by
  obtain ⟨ct, clo, chi, cst⟩ := c
  obtain ⟨rt, rlo, rhi, rst⟩ := r
  unfold clipC at h
  simp only [C4.mk.injEq] at h ⊢
  obtain ⟨h1, h2, h3, h4⟩ := h
  rw [h2] at h3
  obtain ⟨m1, e1⟩ : ∃ m, (if 1048576 < ct then 1048576 else ct) = m := ⟨_, rfl⟩
  obtain ⟨m2, e2⟩ : ∃ m, (if 255 < clo then 255 else clo) = m := ⟨_, rfl⟩
  obtain ⟨m3, e3⟩ : ∃ m, (if 255 < chi then 255 else chi) = m := ⟨_, rfl⟩
  obtain ⟨m4, e4⟩ : ∃ m, (if 100 < cst then 100 else cst) = m := ⟨_, rfl⟩
  have g1 : (if 1 < m1 then m1 else 1) = rt := by rw [← h1, ← e1]; unfold clipI; split <;> split <;> omega
  have g2 : (if 0 < m2 then m2 else 0) = rlo := by rw [← h2, ← e2]; unfold clipI; split <;> split <;> omega
  have g3 : (if rlo < m3 then m3 else rlo) = rhi := by rw [← h3, ← e3]; unfold clipI; split <;> split <;> omega
  have g4 : (if 1 < m4 then m4 else 1) = rst := by rw [← h4, ← e4]; unfold clipI; split <;> split <;> omega
  clear h1 h2 h3 h4
  go_enter Tryd.func8, Tryd.ntmps8
  go_wp2_with fail
  refine bodyPost_ret (v := .agg #[.int .i64 rt, .int .i64 rlo, .int .i64 rhi, .int .i64 rst]) ?_ rfl ⟨rfl, ?_⟩
  · simp [results, Tryd.results8, go_sem]
  · (repeat (first | with_reducible assumption | with_reducible exact Below.refl _ _ | with_reducible refine Below.drew ?_ | with_reducible refine Below.setCell ?_ (by first | exact Nat.le_refl _ | exact Nat.le_add_right _ _ | assumption | omega | (simp; done) | (simp; omega)) _ | with_reducible refine Below.alloc ?_ (by first | exact Nat.le_refl _ | exact Nat.le_add_right _ _ | assumption | omega | (simp; done) | (simp; omega)) _ | refine Below.drew ?_ | refine Below.setCell ?_ (by first | exact Nat.le_refl _ | exact Nat.le_add_right _ _ | assumption | omega | (simp; done) | (simp; omega)) _ | refine Below.alloc ?_ (by first | exact Nat.le_refl _ | exact Nat.le_add_right _ _ | assumption | omega | (simp; done) | (simp; omega)) _))
set_option maxHeartbeats 2000000 in
theorem ref17_Known (l r : L3) (h : knownL l = r) (w : World) :
    Calls Tryd.prog 30 #[.agg #[.int .i64 l.s, .int .i64 l.h, .int .i64 l.k]] w fun e w' => e = .returned (.agg #[.int .i64 r.s, .int .i64 r.h, .int .i64 r.k]) ∧ Below w.heap.size w w' := by
  obtain ⟨s, t, n⟩ := l
  obtain ⟨rs, rt, rn⟩ := r
  unfold knownL at h
  simp only [L3.mk.injEq] at h ⊢
  obtain ⟨h1, h2, h3⟩ := h
  have HT := Lib.hid (fun W => ref17_tick _ _ h2 W)
  have hm : (if 0 < n then n else 0) = rn := by rw [← h3]; split <;> omega
  clear h2 h3
  go_enter Tryd.func30, Tryd.ntmps30
  have hcase : (s < 0 ∧ rs = 3) ∨ (0 ≤ s ∧ 3 < s ∧ rs = 3) ∨ (0 ≤ s ∧ s ≤ 3 ∧ rs = s) := by
    rw [← h1]; unfold stateI
    split
    · exact .inl ⟨by assumption, rfl⟩
    · split <;> omega
  clear h1
  rcases hcase with ⟨c1, rfl⟩ | ⟨c1, c2, rfl⟩ | ⟨c1, c2, rfl⟩
  · go_upto_region 3 with fail
    have k1 := (Blk.new w 40 #[.int .i64 3, .int .i64 t, .int .i64 n]).alloc (.cells #[.int .i64 0, .int .i64 0, .int .i64 0] 40)
    have k2 := Blk.new1 w (.cells #[.int .i64 3, .int .i64 t, .int .i64 n] 40) 40 #[.int .i64 0, .int .i64 0, .int .i64 0]
    have B1 : Below w.heap.size w ((w.alloc (.cells #[.int .i64 3, .int .i64 t, .int .i64 n] 40)).alloc (.cells #[.int .i64 0, .int .i64 0, .int .i64 0] 40)) := ((Below.refl _ w).alloc (Nat.le_refl _) _).alloc (by simp) _
    generalize ((w.alloc (.cells #[.int .i64 3, .int .i64 t, .int .i64 n] 40)).alloc (.cells #[.int .i64 0, .int .i64 0, .int .i64 0] 40)) = w1 at *
    have E0 := fun (g : Ext w1) => g.cell (k1.cell 0) k1.lt
    have E1 := fun (g : Ext w1) => g.cell (k1.cell 1) k1.lt
    have E2 := fun (g : Ext w1) => g.cell (k1.cell 2) k1.lt
    simp at E0 E1 E2
    refine wp_region_ext_tail 9 (by kernel_rfl) (by kernel_rfl) ?_; simp only [List.take_succ_cons, List.take_zero, List.drop_succ_cons, List.drop_zero]; (repeat (go_big_quiet_step ((first | (go_at_call 31; with_reducible exact calls_ext_same _ (HT.out _)))))); refine wpQuiet_nil ?_; rintro _ ⟨gq, rfl⟩
    clear E0 E1 E2
    have p2 := k2.below gq.below k2.lt
    have B2 := B1.trans (gq.below.mono B1.size)
    generalize gq.world = w2 at p2 B2 ⊢
    clear k1 k2 gq B1
    have c2 := p2.cell
    have f2 := p2.frozen
    simp at c2
    go_wp2_with fail
    refine bodyPost_ret (v := .agg #[.int .i64 3, .int .i64 rt, .int .i64 rn]) ?_ rfl ⟨rfl, ?_⟩
    · simp [results, Tryd.results30, go_sem, c2]
    · refine B2.trans ?_
      (repeat (first | with_reducible assumption | with_reducible exact Below.refl _ _ | with_reducible refine Below.drew ?_ | with_reducible refine Below.setCell ?_ (by first | exact Nat.le_refl _ | exact Nat.le_add_right _ _ | assumption | omega | (simp; done) | (simp; omega)) _ | with_reducible refine Below.alloc ?_ (by first | exact Nat.le_refl _ | exact Nat.le_add_right _ _ | assumption | omega | (simp; done) | (simp; omega)) _ | refine Below.drew ?_ | refine Below.setCell ?_ (by first | exact Nat.le_refl _ | exact Nat.le_add_right _ _ | assumption | omega | (simp; done) | (simp; omega)) _ | refine Below.alloc ?_ (by first | exact Nat.le_refl _ | exact Nat.le_add_right _ _ | assumption | omega | (simp; done) | (simp; omega)) _))
  · go_upto_region 3 with fail
    have k1 := (Blk.new w 40 #[.int .i64 3, .int .i64 t, .int .i64 n]).alloc (.cells #[.int .i64 0, .int .i64 0, .int .i64 0] 40)
    have k2 := Blk.new1 w (.cells #[.int .i64 3, .int .i64 t, .int .i64 n] 40) 40 #[.int .i64 0, .int .i64 0, .int .i64 0]
    have B1 : Below w.heap.size w ((w.alloc (.cells #[.int .i64 3, .int .i64 t, .int .i64 n] 40)).alloc (.cells #[.int .i64 0, .int .i64 0, .int .i64 0] 40)) := ((Below.refl _ w).alloc (Nat.le_refl _) _).alloc (by simp) _
    generalize ((w.alloc (.cells #[.int .i64 3, .int .i64 t, .int .i64 n] 40)).alloc (.cells #[.int .i64 0, .int .i64 0, .int .i64 0] 40)) = w1 at *
    have E0 := fun (g : Ext w1) => g.cell (k1.cell 0) k1.lt
    have E1 := fun (g : Ext w1) => g.cell (k1.cell 1) k1.lt
    have E2 := fun (g : Ext w1) => g.cell (k1.cell 2) k1.lt
    simp at E0 E1 E2
    refine wp_region_ext_tail 9 (by kernel_rfl) (by kernel_rfl) ?_; simp only [List.take_succ_cons, List.take_zero, List.drop_succ_cons, List.drop_zero]; (repeat (go_big_quiet_step ((first | (go_at_call 31; with_reducible exact calls_ext_same _ (HT.out _)))))); refine wpQuiet_nil ?_; rintro _ ⟨gq, rfl⟩
    clear E0 E1 E2
    have p2 := k2.below gq.below k2.lt
    have B2 := B1.trans (gq.below.mono B1.size)
    generalize gq.world = w2 at p2 B2 ⊢
    clear k1 k2 gq B1
    have c2 := p2.cell
    have f2 := p2.frozen
    simp at c2
    go_wp2_with fail
    refine bodyPost_ret (v := .agg #[.int .i64 3, .int .i64 rt, .int .i64 rn]) ?_ rfl ⟨rfl, ?_⟩
    · simp [results, Tryd.results30, go_sem, c2]
    · refine B2.trans ?_
      (repeat (first | with_reducible assumption | with_reducible exact Below.refl _ _ | with_reducible refine Below.drew ?_ | with_reducible refine Below.setCell ?_ (by first | exact Nat.le_refl _ | exact Nat.le_add_right _ _ | assumption | omega | (simp; done) | (simp; omega)) _ | with_reducible refine Below.alloc ?_ (by first | exact Nat.le_refl _ | exact Nat.le_add_right _ _ | assumption | omega | (simp; done) | (simp; omega)) _ | refine Below.drew ?_ | refine Below.setCell ?_ (by first | exact Nat.le_refl _ | exact Nat.le_add_right _ _ | assumption | omega | (simp; done) | (simp; omega)) _ | refine Below.alloc ?_ (by first | exact Nat.le_refl _ | exact Nat.le_add_right _ _ | assumption | omega | (simp; done) | (simp; omega)) _))
  · go_upto_region 3 with fail
    have k1 := (Blk.new w 40 #[.int .i64 rs, .int .i64 t, .int .i64 n]).alloc (.cells #[.int .i64 0, .int .i64 0, .int .i64 0] 40)
    have k2 := Blk.new1 w (.cells #[.int .i64 rs, .int .i64 t, .int .i64 n] 40) 40 #[.int .i64 0, .int .i64 0, .int .i64 0]
    have B1 : Below w.heap.size w ((w.alloc (.cells #[.int .i64 rs, .int .i64 t, .int .i64 n] 40)).alloc (.cells #[.int .i64 0, .int .i64 0, .int .i64 0] 40)) := ((Below.refl _ w).alloc (Nat.le_refl _) _).alloc (by simp) _
    generalize ((w.alloc (.cells #[.int .i64 rs, .int .i64 t, .int .i64 n] 40)).alloc (.cells #[.int .i64 0, .int .i64 0, .int .i64 0] 40)) = w1 at *
    have E0 := fun (g : Ext w1) => g.cell (k1.cell 0) k1.lt
    have E1 := fun (g : Ext w1) => g.cell (k1.cell 1) k1.lt
    have E2 := fun (g : Ext w1) => g.cell (k1.cell 2) k1.lt
    simp at E0 E1 E2
    refine wp_region_ext_tail 9 (by kernel_rfl) (by kernel_rfl) ?_; simp only [List.take_succ_cons, List.take_zero, List.drop_succ_cons, List.drop_zero]; (repeat (go_big_quiet_step ((first | (go_at_call 31; with_reducible exact calls_ext_same _ (HT.out _)))))); refine wpQuiet_nil ?_; rintro _ ⟨gq, rfl⟩
    clear E0 E1 E2
    have p2 := k2.below gq.below k2.lt
    have B2 := B1.trans (gq.below.mono B1.size)
    generalize gq.world = w2 at p2 B2 ⊢
    clear k1 k2 gq B1
    have c2 := p2.cell
    have f2 := p2.frozen
    simp at c2
    go_wp2_with fail
    refine bodyPost_ret (v := .agg #[.int .i64 rs, .int .i64 rt, .int .i64 rn]) ?_ rfl ⟨rfl, ?_⟩
    · simp [results, Tryd.results30, go_sem, c2]
    · refine B2.trans ?_
      (repeat (first | with_reducible assumption | with_reducible exact Below.refl _ _ | with_reducible refine Below.drew ?_ | with_reducible refine Below.setCell ?_ (by first | exact Nat.le_refl _ | exact Nat.le_add_right _ _ | assumption | omega | (simp; done) | (simp; omega)) _ | with_reducible refine Below.alloc ?_ (by first | exact Nat.le_refl _ | exact Nat.le_add_right _ _ | assumption | omega | (simp; done) | (simp; omega)) _ | refine Below.drew ?_ | refine Below.setCell ?_ (by first | exact Nat.le_refl _ | exact Nat.le_add_right _ _ | assumption | omega | (simp; done) | (simp; omega)) _ | refine Below.alloc ?_ (by first | exact Nat.le_refl _ | exact Nat.le_add_right _ _ | assumption | omega | (simp; done) | (simp; omega)) _))

theorem fld_ref17_0 (a b c : Int) (w : World) : (Instr.field 40 (.agg #[.int .i64 a, .int .i64 b, .int .i64 c]) 0).run Tryd.prog w = .ok (.int .i64 a) w := by kernel_rfl
theorem fld_cfg17_0 (a b c d : Int) (w : World) : (Instr.field 23 (.agg #[.int .i64 a, .int .i64 b, .int .i64 c, .int .i64 d]) 0).run Tryd.prog w = .ok (.int .i64 a) w := by kernel_rfl
attribute [local go_sem] fld_ref17_0 fld_cfg17_0

set_option maxHeartbeats 2000000 in
theorem ref17_Weight (l : L3) (rate r q : Int) (hr : clipI rate 1 65535 = r) (hq : weightL (knownL l).s r = q) (w : World) :
    Calls Tryd.prog 16 #[.agg #[.int .i64 l.s, .int .i64 l.h, .int .i64 l.k], .int .i64 rate] w fun e w' => e = .returned (.int .i64 q) ∧ Below w.heap.size w w' := by
  obtain ⟨x, hx⟩ : ∃ x, knownL l = x := ⟨_, rfl⟩
  have HK := Lib.hid (fun W => ref17_Known l x hx W)
  have hxk : KnownL x := by rw [← hx]; exact knownL_known l
  have hrb := clip_bd rate 1 65535 (by omega)
  rw [hr] at hrb
  rw [hx] at hq
  obtain ⟨m, hm⟩ : ∃ m, (if 65535 < rate then 65535 else rate) = m := ⟨_, rfl⟩
  have hm2 : (if 1 < m then m else 1) = r := by rw [← hr, ← hm]; unfold clipI; split <;> split <;> omega
  clear hx hr
  obtain ⟨r1, r2⟩ := hrb
  obtain ⟨hs, _, _, _⟩ := hxk
  obtain ⟨s, t, k⟩ := x
  simp only at hs hq HK
  have w2 : IntKind.i64.wrap (r / 2) = r / 2 := IntWalk.i64_in _ (by omega)
  have w4 : IntKind.i64.wrap (r / 4) = r / 4 := IntWalk.i64_in _ (by omega)
  have HQ := Lib.hid hq
  clear hq
  go_enter Tryd.func16, Tryd.ntmps16
  go_wp2_with fail
  refine (HK.out _).mono ?_
  rintro e w1 ⟨rfl, hb⟩
  have B : Below w.heap.size w w1 := ((Below.refl _ w).alloc (Nat.le_refl _) _).trans (hb.mono (by simp))
  clear hb
  rcases hs with rfl | rfl | rfl | rfl
  all_goals
    go_wp2_with fail
    all_goals
      go_ret
      refine ⟨ret_int ?_, B⟩
      have hq := HQ.out
      unfold weightL at hq
      simp at hq
      omega

set_option maxHeartbeats 4000000 in
theorem ref17_Tick (l r : L3) (c : C4) (now : Int) (b : Bool) (h : tickL l c now = r) (hb : b = lateL (knownL l) (clipC c) (tickI now)) (w : World) :
    Calls Tryd.prog 15 #[.agg #[.int .i64 l.s, .int .i64 l.h, .int .i64 l.k], .agg #[.int .i64 c.t, .int .i64 c.lo, .int .i64 c.hi, .int .i64 c.st], .int .i64 now] w fun e w' => e = .returned (.tuple #[.agg #[.int .i64 r.s, .int .i64 r.h, .int .i64 r.k], .bool b]) ∧ Below w.heap.size w w' := by
  obtain ⟨x, hx⟩ : ∃ x, knownL l = x := ⟨_, rfl⟩
  obtain ⟨k, hk⟩ : ∃ k, clipC c = k := ⟨_, rfl⟩
  obtain ⟨n, hn⟩ : ∃ n, tickI now = n := ⟨_, rfl⟩
  have hxk : KnownL x := by rw [← hx]; exact knownL_known l
  have hkc : CountC k := by rw [← hk]; exact clipC_count c
  have hnb := tickI_bd now
  unfold tickL at h
  rw [hx, hk, hn] at h hb
  rw [hn] at hnb
  have HC := Lib.hid (fun W => ref17_Clip c k hk W)
  have HK := Lib.hid (fun W => ref17_Known l x hx W)
  have HT := Lib.hid (fun W => ref17_tick now n hn W)
  clear hx hk hn
  obtain ⟨x1, x2, x3, x4⟩ := hxk
  obtain ⟨q1, q2, q3, q4, q5, q6, q7⟩ := hkc
  obtain ⟨n1, n2⟩ := hnb
  have hcase : (x.s = 3 ∧ b = false ∧ r = x) ∨ (x.s ≠ 3 ∧ n - x.h ≤ k.t ∧ b = false ∧ r = x) ∨ (x.s ≠ 3 ∧ k.t < n - x.h ∧ b = true ∧ r = ⟨3, x.h, 0⟩) := by
    unfold lateL at h hb
    by_cases h3 : x.s = 3
    · simp [h3] at h hb
      exact .inl ⟨h3, hb, h.symm⟩
    · by_cases h4 : k.t < n - x.h
      · simp [h3, h4] at h hb
        exact .inr (.inr ⟨h3, h4, hb, h.symm⟩)
      · simp [h3, h4] at h hb
        exact .inr (.inl ⟨h3, by omega, hb, h.symm⟩)
  clear h hb x1
  have wn : IntKind.i64.wrap (n - x.h) = n - x.h := IntWalk.i64_in _ (by omega)
  have k4 := ((Blk.new w 40 #[.int .i64 l.s, .int .i64 l.h, .int .i64 l.k]).alloc (.cells #[.int .i64 c.t, .int .i64 c.lo, .int .i64 c.hi, .int .i64 c.st] 23)).alloc (.cells #[.int .i64 0, .int .i64 0, .int .i64 0] 40)
  have k5 := (Blk.new1 w (.cells #[.int .i64 l.s, .int .i64 l.h, .int .i64 l.k] 40) 23 #[.int .i64 c.t, .int .i64 c.lo, .int .i64 c.hi, .int .i64 c.st]).alloc (.cells #[.int .i64 0, .int .i64 0, .int .i64 0] 40)
  have k6 := Blk.new1 (w.alloc (.cells #[.int .i64 l.s, .int .i64 l.h, .int .i64 l.k] 40)) (.cells #[.int .i64 c.t, .int .i64 c.lo, .int .i64 c.hi, .int .i64 c.st] 23) 40 #[.int .i64 0, .int .i64 0, .int .i64 0]
  have B1 : Below w.heap.size w (((w.alloc (.cells #[.int .i64 l.s, .int .i64 l.h, .int .i64 l.k] 40)).alloc (.cells #[.int .i64 c.t, .int .i64 c.lo, .int .i64 c.hi, .int .i64 c.st] 23)).alloc (.cells #[.int .i64 0, .int .i64 0, .int .i64 0] 40)) := (((Below.refl _ w).alloc (Nat.le_refl _) _).alloc (by simp) _).alloc (by simp; omega) _
  simp at k6
  go_enter Tryd.func15, Tryd.ntmps15
  go_upto_region 1 with fail
  generalize (((w.alloc (.cells #[.int .i64 l.s, .int .i64 l.h, .int .i64 l.k] 40)).alloc (.cells #[.int .i64 c.t, .int .i64 c.lo, .int .i64 c.hi, .int .i64 c.st] 23)).alloc (.cells #[.int .i64 0, .int .i64 0, .int .i64 0] 40)) = w1 at *
  have c4 := k4.cell
  simp at c4
  go_wp2_with fail
  refine (HK.out _).mono ?_
  rintro e w2 ⟨rfl, hb⟩
  have p5 := k5.below hb k5.lt
  have p6 := k6.below hb k6.lt
  have B2 := B1.trans (hb.mono B1.size)
  clear k4 k5 k6 hb B1 c4
  go_upto_region 2 with fail
  have p5 := p5.alloc (.cells #[.int .i64 x.s, .int .i64 x.h, .int .i64 x.k] 40)
  have p6 := p6.alloc (.cells #[.int .i64 x.s, .int .i64 x.h, .int .i64 x.k] 40)
  have p8 := Blk.new w2 40 #[.int .i64 x.s, .int .i64 x.h, .int .i64 x.k]
  have B2 := B2.alloc B2.size (.cells #[.int .i64 x.s, .int .i64 x.h, .int .i64 x.k] 40)
  generalize hg8 : w2.heap.size = g8 at *
  generalize (w2.alloc (.cells #[.int .i64 x.s, .int .i64 x.h, .int .i64 x.k] 40)) = w4 at *
  have E0 := fun (g : Ext w4) => g.cell (p8.cell 0) p8.lt
  have E1 := fun (g : Ext w4) => g.cell (p8.cell 1) p8.lt
  have E2 := fun (g : Ext w4) => g.cell (p8.cell 2) p8.lt
  have E4 := fun (g : Ext w4) => g.cell (p5.cell 0) p5.lt
  have E5 := fun (g : Ext w4) => g.cell (p5.cell 1) p5.lt
  have E6 := fun (g : Ext w4) => g.cell (p5.cell 2) p5.lt
  have E7 := fun (g : Ext w4) => g.cell (p5.cell 3) p5.lt
  simp at E0 E1 E2 E4 E5 E6 E7
  rcases hcase with ⟨j, rfl, rfl⟩ | ⟨j, j2, rfl, rfl⟩ | ⟨j, j2, rfl, rfl⟩
  · have j1 : (r.s != 3) = false := by simp [j]
    have j3 : decide (r.s = 3) = true := by simp [j]
    refine wp_region_ext (by kernel_rfl) (by kernel_rfl) ?_; (repeat (go_big_quiet_step ((first | (go_at_call 31; with_reducible exact calls_ext_same _ (HT.out _)) | (go_at_call 8; with_reducible exact calls_ext _ (HC.out _)))))); refine wpQuiet_nil ?_; rintro _ ⟨gq, rfl⟩
    clear E0 E1 E2 E4 E5 E6 E7
    have q6' := p6.below gq.below p6.lt
    have q8 := p8.below gq.below p8.lt
    have B6 := B2.trans (gq.below.mono B2.size)
    generalize gq.world = w5 at q6' q8 B6 ⊢
    clear p5 p6 p8 gq B2
    have c6 := q6'.cell
    have f6 := q6'.frozen
    have c8 := q8.cell
    simp at c6 c8
    go_wp2_with fail
    refine bodyPost_ret (v := .tuple #[.agg #[.int .i64 r.s, .int .i64 r.h, .int .i64 r.k], .bool false]) ?_ rfl ⟨rfl, ?_⟩
    · simp [results, Tryd.results15, go_sem, c6, c8]
      exact j.symm
    · refine B6.trans ?_
      (repeat (first | with_reducible assumption | with_reducible exact Below.refl _ _ | with_reducible refine Below.drew ?_ | with_reducible refine Below.setCell ?_ (by first | exact Nat.le_refl _ | exact Nat.le_add_right _ _ | assumption | omega | (simp; done) | (simp; omega)) _ | with_reducible refine Below.alloc ?_ (by first | exact Nat.le_refl _ | exact Nat.le_add_right _ _ | assumption | omega | (simp; done) | (simp; omega)) _ | refine Below.drew ?_ | refine Below.setCell ?_ (by first | exact Nat.le_refl _ | exact Nat.le_add_right _ _ | assumption | omega | (simp; done) | (simp; omega)) _ | refine Below.alloc ?_ (by first | exact Nat.le_refl _ | exact Nat.le_add_right _ _ | assumption | omega | (simp; done) | (simp; omega)) _))
  · have j1 : (r.s != 3) = true := by simp [j]
    have j3 : decide (r.s = 3) = false := by simp [j]
    have j4 : decide (k.t < n - r.h) = false := by simp; omega
    refine wp_region_ext (by kernel_rfl) (by kernel_rfl) ?_; (repeat (go_big_quiet_step ((first | (go_at_call 31; with_reducible exact calls_ext_same _ (HT.out _)) | (go_at_call 8; with_reducible exact calls_ext _ (HC.out _)))))); refine wpQuiet_nil ?_; rintro _ ⟨gq, rfl⟩
    clear E0 E1 E2 E4 E5 E6 E7
    have q6' := p6.below gq.below p6.lt
    have q8 := p8.below gq.below p8.lt
    have B6 := B2.trans (gq.below.mono B2.size)
    generalize gq.world = w5 at q6' q8 B6 ⊢
    clear p5 p6 p8 gq B2
    have c6 := q6'.cell
    have f6 := q6'.frozen
    have c8 := q8.cell
    simp at c6 c8
    go_wp2_with fail
    refine bodyPost_ret (v := .tuple #[.agg #[.int .i64 r.s, .int .i64 r.h, .int .i64 r.k], .bool false]) ?_ rfl ⟨rfl, ?_⟩
    · simp [results, Tryd.results15, go_sem, c6, c8]
    · refine B6.trans ?_
      (repeat (first | with_reducible assumption | with_reducible exact Below.refl _ _ | with_reducible refine Below.drew ?_ | with_reducible refine Below.setCell ?_ (by first | exact Nat.le_refl _ | exact Nat.le_add_right _ _ | assumption | omega | (simp; done) | (simp; omega)) _ | with_reducible refine Below.alloc ?_ (by first | exact Nat.le_refl _ | exact Nat.le_add_right _ _ | assumption | omega | (simp; done) | (simp; omega)) _ | refine Below.drew ?_ | refine Below.setCell ?_ (by first | exact Nat.le_refl _ | exact Nat.le_add_right _ _ | assumption | omega | (simp; done) | (simp; omega)) _ | refine Below.alloc ?_ (by first | exact Nat.le_refl _ | exact Nat.le_add_right _ _ | assumption | omega | (simp; done) | (simp; omega)) _))
  · have j1 : (x.s != 3) = true := by simp [j]
    have j3 : decide (x.s = 3) = false := by simp [j]
    have j4 : decide (k.t < n - x.h) = true := by simp; omega
    refine wp_region_ext (by kernel_rfl) (by kernel_rfl) ?_; (repeat (go_big_quiet_step ((first | (go_at_call 31; with_reducible exact calls_ext_same _ (HT.out _)) | (go_at_call 8; with_reducible exact calls_ext _ (HC.out _)))))); refine wpQuiet_nil ?_; rintro _ ⟨gq, rfl⟩
    clear E0 E1 E2 E4 E5 E6 E7
    have q6' := p6.below gq.below p6.lt
    have q8 := p8.below gq.below p8.lt
    have B6 := B2.trans (gq.below.mono B2.size)
    generalize gq.world = w5 at q6' q8 B6 ⊢
    clear p5 p6 p8 gq B2
    have c6 := q6'.cell
    have f6 := q6'.frozen
    have c8 := q8.cell
    simp at c6 c8
    go_wp2_with fail
    refine bodyPost_ret (v := .tuple #[.agg #[.int .i64 3, .int .i64 x.h, .int .i64 0], .bool true]) ?_ rfl ⟨rfl, ?_⟩
    · simp [results, Tryd.results15, go_sem, c6, c8]
    · refine B6.trans ?_
      (repeat (first | with_reducible assumption | with_reducible exact Below.refl _ _ | with_reducible refine Below.drew ?_ | with_reducible refine Below.setCell ?_ (by first | exact Nat.le_refl _ | exact Nat.le_add_right _ _ | assumption | omega | (simp; done) | (simp; omega)) _ | with_reducible refine Below.alloc ?_ (by first | exact Nat.le_refl _ | exact Nat.le_add_right _ _ | assumption | omega | (simp; done) | (simp; omega)) _ | refine Below.drew ?_ | refine Below.setCell ?_ (by first | exact Nat.le_refl _ | exact Nat.le_add_right _ _ | assumption | omega | (simp; done) | (simp; omega)) _ | refine Below.alloc ?_ (by first | exact Nat.le_refl _ | exact Nat.le_add_right _ _ | assumption | omega | (simp; done) | (simp; omega)) _))
end Go.Proofs.YthngobikokhdlaaDoor
