/- Package life: Report, walked. No condition but that the two tables stand. -/
import Derived.Test.YtfoefkoneekolaaDoorLife4
namespace Go.Proofs.YtfoefkoneekolaaDoor
open Go.RowKit BigFrame
attribute [local go_sem ↓] Go.wp_at_zero Go.wp_at_succ

theorem repL_low (x : L3) (k : C4) (f n : Int) (h : f ≤ k.lo) : repL x k f n = ⟨betterI x.s, n, 0⟩ := by unfold repL betterI; rw [if_pos h]
theorem repL_high (x : L3) (k : C4) (f n : Int) (h : ¬ f ≤ k.lo) (h2 : k.hi < f) (hs : x.s = 0 ∨ x.s = 1 ∨ x.s = 2 ∨ x.s = 3) : repL x k f n = ⟨(highL x k.st).s, n, (highL x k.st).k⟩ := by
  unfold repL highL worseI; rw [if_neg h, if_pos h2]
  rcases hs with e | e | e | e <;> rw [e] <;> simp <;> split <;> simp_all
theorem repL_mid (x : L3) (k : C4) (f n : Int) (h : ¬ f ≤ k.lo) (h2 : ¬ k.hi < f) : repL x k f n = ⟨x.s, n, x.k⟩ := by unfold repL; rw [if_neg h, if_neg h2]

set_option maxHeartbeats 4000000 in
theorem life_Report (l r : L3) (c : C4) (f now : Int) (b : Bool) (h : reportL l c f now = r) (hb : b = (r.s != (knownL l).s)) (w : World) (hT : Tabs w) :
    Calls Tryd.prog 11 #[.agg #[.int .i64 l.s, .int .i64 l.h, .int .i64 l.k], .agg #[.int .i64 c.t, .int .i64 c.lo, .int .i64 c.hi, .int .i64 c.st], .int .i64 f, .int .i64 now] w fun e w' => e = .returned (.tuple #[.agg #[.int .i64 r.s, .int .i64 r.h, .int .i64 r.k], .bool b]) ∧ Below w.heap.size w w' := by
  obtain ⟨x, hx⟩ : ∃ x, knownL l = x := ⟨_, rfl⟩
  obtain ⟨k, hk⟩ : ∃ k, clipC c = k := ⟨_, rfl⟩
  obtain ⟨n, hn⟩ : ∃ n, tickI now = n := ⟨_, rfl⟩
  have hxk : KnownL x := by rw [← hx]; exact knownL_known l
  have hkc : CountC k := by rw [← hk]; exact clipC_count c
  unfold reportL at h
  rw [hx, hk, hn] at h
  rw [hx] at hb
  have HC := Lib.hid (fun W => life_Clip c k hk W)
  have HK := Lib.hid (fun W => life_known l x hx W)
  have HT := Lib.hid (fun W => life_tick now n hn W)
  clear hx hk hn
  obtain ⟨x1, x2, x3, x4⟩ := hxk
  obtain ⟨q1, q2, q3, q4, q5, q6, q7⟩ := hkc
  have HX := Lib.hid x1
  have HR := Lib.hid h
  have HB := Lib.hid hb
  have HTB := Lib.hid hT
  have hsz := hT.1
  clear x1 h hb hT
  have k4 := ((Blk.new w 37 #[.int .i64 l.s, .int .i64 l.h, .int .i64 l.k]).alloc (.cells #[.int .i64 c.t, .int .i64 c.lo, .int .i64 c.hi, .int .i64 c.st] 25)).alloc (.cells #[.int .i64 0, .int .i64 0, .int .i64 0] 37)
  have k5 := (Blk.new1 w (.cells #[.int .i64 l.s, .int .i64 l.h, .int .i64 l.k] 37) 25 #[.int .i64 c.t, .int .i64 c.lo, .int .i64 c.hi, .int .i64 c.st]).alloc (.cells #[.int .i64 0, .int .i64 0, .int .i64 0] 37)
  have k8 := Blk.new1 (w.alloc (.cells #[.int .i64 l.s, .int .i64 l.h, .int .i64 l.k] 37)) (.cells #[.int .i64 c.t, .int .i64 c.lo, .int .i64 c.hi, .int .i64 c.st] 25) 37 #[.int .i64 0, .int .i64 0, .int .i64 0]
  have B1 : Below w.heap.size w (((w.alloc (.cells #[.int .i64 l.s, .int .i64 l.h, .int .i64 l.k] 37)).alloc (.cells #[.int .i64 c.t, .int .i64 c.lo, .int .i64 c.hi, .int .i64 c.st] 25)).alloc (.cells #[.int .i64 0, .int .i64 0, .int .i64 0] 37)) := (((Below.refl _ w).alloc (Nat.le_refl _) _).alloc (by simp) _).alloc (by simp; omega) _
  simp at k8
  go_enter Tryd.func11, Tryd.ntmps11
  go_upto_region 1 with fail
  generalize (((w.alloc (.cells #[.int .i64 l.s, .int .i64 l.h, .int .i64 l.k] 37)).alloc (.cells #[.int .i64 c.t, .int .i64 c.lo, .int .i64 c.hi, .int .i64 c.st] 25)).alloc (.cells #[.int .i64 0, .int .i64 0, .int .i64 0] 37)) = w1 at *
  have E0 := fun (g : Ext w1) => g.cell (k4.cell 0) k4.lt
  have E1 := fun (g : Ext w1) => g.cell (k4.cell 1) k4.lt
  have E2 := fun (g : Ext w1) => g.cell (k4.cell 2) k4.lt
  have E4 := fun (g : Ext w1) => g.cell (k5.cell 0) k5.lt
  have E5 := fun (g : Ext w1) => g.cell (k5.cell 1) k5.lt
  have E6 := fun (g : Ext w1) => g.cell (k5.cell 2) k5.lt
  have E7 := fun (g : Ext w1) => g.cell (k5.cell 3) k5.lt
  simp at E0 E1 E2 E4 E5 E6 E7
  refine wp_region_ext_tail 4 (by kernel_rfl) (by kernel_rfl) ?_; simp only [List.take_succ_cons, List.take_zero, List.drop_succ_cons, List.drop_zero]; (repeat (go_big_quiet_step ((first | (go_at_call 20; with_reducible exact calls_ext _ (HC.out _)) | (go_at_call 21; with_reducible exact calls_ext _ (HK.out _)))))); refine wpQuiet_nil ?_; rintro _ ⟨gq, rfl⟩
  clear E0 E1 E2 E4 E5 E6 E7
  have p4 := k4.below gq.below k4.lt
  have p5 := k5.below gq.below k5.lt
  have p8 := k8.below gq.below k8.lt
  have B2 := B1.trans (gq.below.mono B1.size)
  generalize gq.world = w2 at p4 p5 p8 B2 ⊢
  clear k4 k5 k8 B1 gq
  have c4 := p4.cell
  have f4 := p4.frozen
  have c5 := p5.cell
  have f5 := p5.frozen
  simp at c4 c5
  obtain ⟨w3, e3, p5', B3, hk3⟩ := four_set p5 rfl (.int .i64 k.t) (.int .i64 k.lo) (.int .i64 k.hi) (.int .i64 k.st) w.heap.size (by omega)
  have p4 := p4.kept hk3 (by omega)
  have p8 := p8.kept hk3 (by omega)
  obtain ⟨w4, e4, p4', B4, hk4⟩ := three_set p4 rfl (.int .i64 x.s) (.int .i64 x.h) (.int .i64 x.k) w.heap.size (Nat.le_refl _)
  have p5' := p5'.kept hk4 (by omega)
  have p8 := p8.kept hk4 (by omega)
  have B5 := (B2.trans B3).trans B4
  rw [← e3] at e4
  clear B2 B3 B4 hk3 hk4 e3 p4 p5
  go_upto_region 2 with fail
  clear e4 c4 f4 c5 f5
  have hT4 := HTB.out.below B5 hsz
  have c5 := p5'.cell
  simp at c5
  have c4 := p4'.cell
  have f4 := p4'.frozen
  simp at c4
  by_cases hlo : f ≤ k.lo
  · have HREP := repL_low x k f n hlo
    have HL := Lib.hid (life_low x HX.out w4 hT4)
    clear hT4
    obtain ⟨z, hz⟩ : ∃ z, betterI x.s = z := ⟨_, rfl⟩
    rw [hz] at HREP HL
    have HREP := Lib.hid HREP
    clear hz
    go_wp2_with fail
    refine HL.out.mono ?_
    rintro e w5 ⟨rfl, hb5⟩
    have q4 := p4'.below hb5 p4'.lt
    have p8 := p8.below hb5 p8.lt
    have B5 := B5.trans (hb5.mono B5.size)
    clear c4 f4 c5 p4' p5'
    have c4 := q4.cell
    have f4 := q4.frozen
    simp at c4
    obtain ⟨w6, e6, p4', B6, hk6⟩ := three_set q4 rfl (.int .i64 z) (.int .i64 x.h) (.int .i64 0) w.heap.size (Nat.le_refl _)
    have p8 := p8.kept hk6 (by omega)
    have B5 := B5.trans B6
    clear B6 hk6 hb5
    go_upto_region 7 with fail
    clear e6 c4 f4 q4
    have c4 := p4'.cell
    have f4 := p4'.frozen
    have c5 := ()
    simp at c4
    clear c5
    have p4' := p4'.set_ 1 (.int .i64 n)
    have p8 := p8.far (p := ⟨w.heap.size, 1, none⟩) (by simp; omega) (.int .i64 n)
    have B5 := B5.setCell (p := ⟨w.heap.size, 1, none⟩) (Nat.le_refl _) (.int .i64 n)
    simp at p4'
    go_upto_region 8 with (go_at_call 17; ((with_reducible refine (HT.out _).mono ?_); rintro e w' ⟨rfl, rfl⟩))
    clear c4 f4
    generalize (World.setCell _ ⟨w.heap.size, 1, none⟩ (.int .i64 n)) = w7 at p4' p8 B5 ⊢
    have c4 := p4'.cell
    have c8 := p8.cell
    have f8 := p8.frozen
    simp at c4 c8
    go_region
    all_goals
      go_wp2_with fail
      refine bodyPost_ret (v := .tuple #[.agg #[.int .i64 z, .int .i64 n, .int .i64 0], .bool (z != x.s)]) ?_ rfl ⟨?_, ?_⟩
      · simp [results, Tryd.results11, go_sem, bne, c8]
      · rw [HB.out, ← HR.out, HREP.out]
      · (repeat (first | with_reducible assumption | with_reducible exact Below.refl _ _ | with_reducible refine Below.drew ?_ | with_reducible refine Below.setCell ?_ (by first | exact Nat.le_refl _ | exact Nat.le_add_right _ _ | assumption | omega | (simp; done) | (simp; omega)) _ | with_reducible refine Below.alloc ?_ (by first | exact Nat.le_refl _ | exact Nat.le_add_right _ _ | assumption | omega | (simp; done) | (simp; omega)) _ | refine Below.drew ?_ | refine Below.setCell ?_ (by first | exact Nat.le_refl _ | exact Nat.le_add_right _ _ | assumption | omega | (simp; done) | (simp; omega)) _ | refine Below.alloc ?_ (by first | exact Nat.le_refl _ | exact Nat.le_add_right _ _ | assumption | omega | (simp; done) | (simp; omega)) _))
  · by_cases hhi : k.hi < f
    · have HREP := repL_high x k f n hlo hhi HX.out
      obtain ⟨y, hy⟩ : ∃ y, highL x k.st = y := ⟨_, rfl⟩
      have HL := Lib.hid (life_high x y k hy HX.out x4 q6 q7 w4 hT4)
      rw [hy] at HREP
      have HREP := Lib.hid HREP
      clear hy hT4
      go_wp2_with fail
      refine HL.out.mono ?_
      rintro e w5 ⟨rfl, hb5⟩
      have q4 := p4'.below hb5 p4'.lt
      have p8 := p8.below hb5 p8.lt
      have B5 := B5.trans (hb5.mono B5.size)
      clear c4 f4 c5 p4' p5'
      have c4 := q4.cell
      have f4 := q4.frozen
      simp at c4
      obtain ⟨w6, e6, p4', B6, hk6⟩ := three_set q4 rfl (.int .i64 y.s) (.int .i64 y.h) (.int .i64 y.k) w.heap.size (Nat.le_refl _)
      have p8 := p8.kept hk6 (by omega)
      have B5 := B5.trans B6
      clear B6 hk6 hb5
      go_upto_region 7 with fail
      clear e6 c4 f4 q4
      have c4 := p4'.cell
      have f4 := p4'.frozen
      have c5 := ()
      simp at c4
      clear c5
      have p4' := p4'.set_ 1 (.int .i64 n)
      have p8 := p8.far (p := ⟨w.heap.size, 1, none⟩) (by simp; omega) (.int .i64 n)
      have B5 := B5.setCell (p := ⟨w.heap.size, 1, none⟩) (Nat.le_refl _) (.int .i64 n)
      simp at p4'
      go_upto_region 8 with (go_at_call 17; ((with_reducible refine (HT.out _).mono ?_); rintro e w' ⟨rfl, rfl⟩))
      clear c4 f4
      generalize (World.setCell _ ⟨w.heap.size, 1, none⟩ (.int .i64 n)) = w7 at p4' p8 B5 ⊢
      have c4 := p4'.cell
      have c8 := p8.cell
      have f8 := p8.frozen
      simp at c4 c8
      go_region
      all_goals
        go_wp2_with fail
        refine bodyPost_ret (v := .tuple #[.agg #[.int .i64 y.s, .int .i64 n, .int .i64 y.k], .bool (y.s != x.s)]) ?_ rfl ⟨?_, ?_⟩
        · simp [results, Tryd.results11, go_sem, bne, c8]
        · rw [HB.out, ← HR.out, HREP.out]
        · (repeat (first | with_reducible assumption | with_reducible exact Below.refl _ _ | with_reducible refine Below.drew ?_ | with_reducible refine Below.setCell ?_ (by first | exact Nat.le_refl _ | exact Nat.le_add_right _ _ | assumption | omega | (simp; done) | (simp; omega)) _ | with_reducible refine Below.alloc ?_ (by first | exact Nat.le_refl _ | exact Nat.le_add_right _ _ | assumption | omega | (simp; done) | (simp; omega)) _ | refine Below.drew ?_ | refine Below.setCell ?_ (by first | exact Nat.le_refl _ | exact Nat.le_add_right _ _ | assumption | omega | (simp; done) | (simp; omega)) _ | refine Below.alloc ?_ (by first | exact Nat.le_refl _ | exact Nat.le_add_right _ _ | assumption | omega | (simp; done) | (simp; omega)) _))
    · have HREP := Lib.hid (repL_mid x k f n hlo hhi)
      clear hT4
      have p4' := p4'.set_ 1 (.int .i64 n)
      have p8 := p8.far (p := ⟨w.heap.size, 1, none⟩) (by simp; omega) (.int .i64 n)
      have B5 := B5.setCell (p := ⟨w.heap.size, 1, none⟩) (Nat.le_refl _) (.int .i64 n)
      simp at p4'
      go_upto_region 8 with (go_at_call 17; ((with_reducible refine (HT.out _).mono ?_); rintro e w' ⟨rfl, rfl⟩))
      clear c4 f4
      generalize (World.setCell _ ⟨w.heap.size, 1, none⟩ (.int .i64 n)) = w7 at p4' p8 B5 ⊢
      have c4 := p4'.cell
      have c8 := p8.cell
      have f8 := p8.frozen
      simp at c4 c8
      go_region
      all_goals
        go_wp2_with fail
        refine bodyPost_ret (v := .tuple #[.agg #[.int .i64 x.s, .int .i64 n, .int .i64 x.k], .bool (x.s != x.s)]) ?_ rfl ⟨?_, ?_⟩
        · simp [results, Tryd.results11, go_sem, bne, c8]
        · rw [HB.out, ← HR.out, HREP.out]
        · (repeat (first | with_reducible assumption | with_reducible exact Below.refl _ _ | with_reducible refine Below.drew ?_ | with_reducible refine Below.setCell ?_ (by first | exact Nat.le_refl _ | exact Nat.le_add_right _ _ | assumption | omega | (simp; done) | (simp; omega)) _ | with_reducible refine Below.alloc ?_ (by first | exact Nat.le_refl _ | exact Nat.le_add_right _ _ | assumption | omega | (simp; done) | (simp; omega)) _ | refine Below.drew ?_ | refine Below.setCell ?_ (by first | exact Nat.le_refl _ | exact Nat.le_add_right _ _ | assumption | omega | (simp; done) | (simp; omega)) _ | refine Below.alloc ?_ (by first | exact Nat.le_refl _ | exact Nat.le_add_right _ _ | assumption | omega | (simp; done) | (simp; omega)) _))
end Go.Proofs.YtfoefkoneekolaaDoor
