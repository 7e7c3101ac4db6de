/- The reference of package life: Report, walked. No condition. -/
import Derived.Test.YthngobikokhdlaaDoorLife7
namespace Go.Proofs.YthngobikokhdlaaDoor
open Go.RowKit BigFrame
attribute [local go_sem ↓] Go.wp_at_zero Go.wp_at_succ

set_option maxHeartbeats 6000000 in
theorem ref17_Report (l r : L3) (c : C4) (f now : Int) (b : Bool) (h : reportL l c f now = r) (hb : b = (r.s != (knownL l).s)) (w : World) :
    Calls Tryd.prog 14 #[.agg #[.int .i64 l.s, .int .i64 l.h, .int .i64 l.k], .agg #[.int .i64 c.t, .int .i64 c.lo, .int .i64 c.hi, .int .i64 c.st], .int .i64 f, .int .i64 now] w fun e w' => e = .returned (.tuple #[.agg #[.int .i64 r.s, .int .i64 r.h, .int .i64 r.k], .bool b]) ∧ Below w.heap.size w w' := by
  obtain ⟨x, hx⟩ : ∃ x, knownL l = x := ⟨_, rfl⟩
  obtain ⟨k, hk⟩ : ∃ k, clipC c = k := ⟨_, rfl⟩
  obtain ⟨n, hn⟩ : ∃ n, tickI now = n := ⟨_, rfl⟩
  have hxk : KnownL x := by rw [← hx]; exact knownL_known l
  have hkc : CountC k := by rw [← hk]; exact clipC_count c
  unfold reportL at h
  rw [hx, hk, hn] at h
  rw [hx] at hb
  have HC := Lib.hid (fun W => ref17_Clip c k hk W)
  have HK := Lib.hid (fun W => ref17_Known l x hx W)
  have HT := Lib.hid (fun W => ref17_tick now n hn W)
  clear hx hk hn
  obtain ⟨x1, x2, x3, x4⟩ := hxk
  obtain ⟨q1, q2, q3, q4, q5, q6, q7⟩ := hkc
  have HR := Lib.hid h
  have HB := Lib.hid hb
  clear x1 h hb
  have k4 := ((Blk.new w 40 #[.int .i64 l.s, .int .i64 l.h, .int .i64 l.k]).alloc (.cells #[.int .i64 c.t, .int .i64 c.lo, .int .i64 c.hi, .int .i64 c.st] 23)).alloc (.cells #[.int .i64 0, .int .i64 0, .int .i64 0] 40)
  have k5 := (Blk.new1 w (.cells #[.int .i64 l.s, .int .i64 l.h, .int .i64 l.k] 40) 23 #[.int .i64 c.t, .int .i64 c.lo, .int .i64 c.hi, .int .i64 c.st]).alloc (.cells #[.int .i64 0, .int .i64 0, .int .i64 0] 40)
  have k6 := Blk.new1 (w.alloc (.cells #[.int .i64 l.s, .int .i64 l.h, .int .i64 l.k] 40)) (.cells #[.int .i64 c.t, .int .i64 c.lo, .int .i64 c.hi, .int .i64 c.st] 23) 40 #[.int .i64 0, .int .i64 0, .int .i64 0]
  have B1 : Below w.heap.size w (((w.alloc (.cells #[.int .i64 l.s, .int .i64 l.h, .int .i64 l.k] 40)).alloc (.cells #[.int .i64 c.t, .int .i64 c.lo, .int .i64 c.hi, .int .i64 c.st] 23)).alloc (.cells #[.int .i64 0, .int .i64 0, .int .i64 0] 40)) := (((Below.refl _ w).alloc (Nat.le_refl _) _).alloc (by simp) _).alloc (by simp; omega) _
  simp at k6
  go_enter Tryd.func14, Tryd.ntmps14
  go_upto_region 1 with fail
  generalize (((w.alloc (.cells #[.int .i64 l.s, .int .i64 l.h, .int .i64 l.k] 40)).alloc (.cells #[.int .i64 c.t, .int .i64 c.lo, .int .i64 c.hi, .int .i64 c.st] 23)).alloc (.cells #[.int .i64 0, .int .i64 0, .int .i64 0] 40)) = w1 at *
  have c5 := k5.cell
  simp at c5
  go_wp2_with fail
  refine (HC.out _).mono ?_
  rintro e w2 ⟨rfl, hb⟩
  have p4 := k4.below hb k4.lt
  have p6 := k6.below hb k6.lt
  have B2 := B1.trans (hb.mono B1.size)
  clear k4 k5 k6 hb B1 c5
  go_upto_region 2 with fail
  have p4 := p4.alloc (.cells #[.int .i64 k.t, .int .i64 k.lo, .int .i64 k.hi, .int .i64 k.st] 23)
  have p6 := p6.alloc (.cells #[.int .i64 k.t, .int .i64 k.lo, .int .i64 k.hi, .int .i64 k.st] 23)
  have p10 := Blk.new w2 23 #[.int .i64 k.t, .int .i64 k.lo, .int .i64 k.hi, .int .i64 k.st]
  have B2 := B2.alloc B2.size (.cells #[.int .i64 k.t, .int .i64 k.lo, .int .i64 k.hi, .int .i64 k.st] 23)
  generalize hg10 : w2.heap.size = g10 at *
  generalize (w2.alloc (.cells #[.int .i64 k.t, .int .i64 k.lo, .int .i64 k.hi, .int .i64 k.st] 23)) = w3 at *
  clear hg10
  have c4 := p4.cell
  simp at c4
  go_wp2_with fail
  refine (HK.out _).mono ?_
  rintro e w4 ⟨rfl, hb⟩
  have p6 := p6.below hb p6.lt
  have p10 := p10.below hb p10.lt
  have B2 := B2.trans (hb.mono B2.size)
  clear p4 hb c4
  go_upto_region 3 with fail
  have hn6 : w.heap.size + 2 ≠ w4.heap.size := by have := p6.lt; omega
  have hn10 : g10 ≠ w4.heap.size := by have := p10.lt; omega
  have hB : w.heap.size ≤ w4.heap.size := B2.size
  have p6 := p6.alloc (.cells #[.int .i64 x.s, .int .i64 x.h, .int .i64 x.k] 40)
  have p10 := p10.alloc (.cells #[.int .i64 x.s, .int .i64 x.h, .int .i64 x.k] 40)
  have p11 := Blk.new w4 40 #[.int .i64 x.s, .int .i64 x.h, .int .i64 x.k]
  have B2 := B2.alloc B2.size (.cells #[.int .i64 x.s, .int .i64 x.h, .int .i64 x.k] 40)
  generalize hg11 : w4.heap.size = g11 at *
  generalize (w4.alloc (.cells #[.int .i64 x.s, .int .i64 x.h, .int .i64 x.k] 40)) = w5 at *
  clear hg11
  have c10 := p10.cell
  have c11 := p11.cell
  have f11 := p11.frozen
  simp at c10 c11
  have ws : IntKind.i64.wrap (k.st - 1) = k.st - 1 := IntWalk.i64_in _ (by omega)
  by_cases h1 : f ≤ k.lo
  · by_cases h2 : x.s = 3
    · have j1 : (x.s == 3) = true := by simp [h2]
      have HREP : r = ⟨0, n, 0⟩ := by
        rw [← HR.out]
        unfold repL
        rw [if_pos h1, if_pos h2]
      have HREP := Lib.hid HREP
      clear h2
      have j2 : decide (x.s = 3) = true := by simpa using j1
      have p11' := (Blk.set_ (Blk.set_ (Blk.set_ p11 2 (.int .i64 0)) 0 (.int .i64 0)) 1 (.int .i64 n))
      have p6' := (Blk.far (Blk.far (Blk.far p6 (p := ⟨g11, 2, none⟩) hn6 (.int .i64 0)) (p := ⟨g11, 0, none⟩) hn6 (.int .i64 0)) (p := ⟨g11, 1, none⟩) hn6 (.int .i64 n))
      have B3 := (Below.setCell (Below.setCell (Below.setCell B2 (p := ⟨g11, 2, none⟩) hB (.int .i64 0)) (p := ⟨g11, 0, none⟩) hB (.int .i64 0)) (p := ⟨g11, 1, none⟩) hB (.int .i64 n))
      simp at p11'
      go_upto_region 17 with (go_at_call 31; ((with_reducible refine (HT.out _).mono ?_); rintro e w' ⟨rfl, rfl⟩))
      clear c10 c11 f11
      generalize (World.setCell (World.setCell (World.setCell w5 ⟨g11, 2, none⟩ (.int .i64 0)) ⟨g11, 0, none⟩ (.int .i64 0)) ⟨g11, 1, none⟩ (.int .i64 n)) = w7 at p11' p6' B3 ⊢
      clear p6 p10 p11 B2
      have c11 := p11'.cell
      have c6 := p6'.cell
      have f6 := p6'.frozen
      simp at c11 c6
      go_region
      all_goals
        go_wp2_with fail
        refine bodyPost_ret (v := .tuple #[.agg #[.int .i64 0, .int .i64 n, .int .i64 0], .bool (0 != x.s)]) ?_ rfl ⟨?_, ?_⟩
        · simp [results, Tryd.results14, go_sem, bne, c6]
        · rw [HB.out, HREP.out]
        · refine B3.trans ?_
          (repeat (first | with_reducible assumption | with_reducible exact Below.refl _ _ | with_reducible refine Below.drew ?_ | with_reducible refine Below.setCell ?_ (by first | exact Nat.le_refl _ | exact Nat.le_add_right _ _ | assumption | omega | (simp; done) | (simp; omega)) _ | with_reducible refine Below.alloc ?_ (by first | exact Nat.le_refl _ | exact Nat.le_add_right _ _ | assumption | omega | (simp; done) | (simp; omega)) _ | refine Below.drew ?_ | refine Below.setCell ?_ (by first | exact Nat.le_refl _ | exact Nat.le_add_right _ _ | assumption | omega | (simp; done) | (simp; omega)) _ | refine Below.alloc ?_ (by first | exact Nat.le_refl _ | exact Nat.le_add_right _ _ | assumption | omega | (simp; done) | (simp; omega)) _))
    · have j1 : (x.s == 3) = false := by simp [h2]
      have HREP : r = ⟨1, n, 0⟩ := by
        rw [← HR.out]
        unfold repL
        rw [if_pos h1, if_neg h2]
      have HREP := Lib.hid HREP
      have p11' := (Blk.set_ (Blk.set_ (Blk.set_ p11 2 (.int .i64 0)) 0 (.int .i64 1)) 1 (.int .i64 n))
      have p6' := (Blk.far (Blk.far (Blk.far p6 (p := ⟨g11, 2, none⟩) hn6 (.int .i64 0)) (p := ⟨g11, 0, none⟩) hn6 (.int .i64 1)) (p := ⟨g11, 1, none⟩) hn6 (.int .i64 n))
      have B3 := (Below.setCell (Below.setCell (Below.setCell B2 (p := ⟨g11, 2, none⟩) hB (.int .i64 0)) (p := ⟨g11, 0, none⟩) hB (.int .i64 1)) (p := ⟨g11, 1, none⟩) hB (.int .i64 n))
      simp at p11'
      go_upto_region 17 with (go_at_call 31; ((with_reducible refine (HT.out _).mono ?_); rintro e w' ⟨rfl, rfl⟩))
      clear c10 c11 f11
      generalize (World.setCell (World.setCell (World.setCell w5 ⟨g11, 2, none⟩ (.int .i64 0)) ⟨g11, 0, none⟩ (.int .i64 1)) ⟨g11, 1, none⟩ (.int .i64 n)) = w7 at p11' p6' B3 ⊢
      clear p6 p10 p11 B2
      have c11 := p11'.cell
      have c6 := p6'.cell
      have f6 := p6'.frozen
      simp at c11 c6
      go_region
      all_goals
        go_wp2_with fail
        refine bodyPost_ret (v := .tuple #[.agg #[.int .i64 1, .int .i64 n, .int .i64 0], .bool (1 != x.s)]) ?_ rfl ⟨?_, ?_⟩
        · simp [results, Tryd.results14, go_sem, bne, c6]
        · rw [HB.out, HREP.out]
        · refine B3.trans ?_
          (repeat (first | with_reducible assumption | with_reducible exact Below.refl _ _ | with_reducible refine Below.drew ?_ | with_reducible refine Below.setCell ?_ (by first | exact Nat.le_refl _ | exact Nat.le_add_right _ _ | assumption | omega | (simp; done) | (simp; omega)) _ | with_reducible refine Below.alloc ?_ (by first | exact Nat.le_refl _ | exact Nat.le_add_right _ _ | assumption | omega | (simp; done) | (simp; omega)) _ | refine Below.drew ?_ | refine Below.setCell ?_ (by first | exact Nat.le_refl _ | exact Nat.le_add_right _ _ | assumption | omega | (simp; done) | (simp; omega)) _ | refine Below.alloc ?_ (by first | exact Nat.le_refl _ | exact Nat.le_add_right _ _ | assumption | omega | (simp; done) | (simp; omega)) _))
  · by_cases h3 : k.hi < f
    · by_cases h2 : x.s = 3
      · have j1 : (x.s == 3) = true := by simp [h2]
        have HREP : r = ⟨3, n, 0⟩ := by
          rw [← HR.out]
          unfold repL
          rw [if_neg h1, if_pos h3, if_pos h2]
        have HREP := Lib.hid HREP
        clear h2
        have j2 : decide (x.s = 3) = true := by simpa using j1
        have p11' := (Blk.set_ (Blk.set_ (Blk.set_ p11 0 (.int .i64 3)) 2 (.int .i64 0)) 1 (.int .i64 n))
        have p6' := (Blk.far (Blk.far (Blk.far p6 (p := ⟨g11, 0, none⟩) hn6 (.int .i64 3)) (p := ⟨g11, 2, none⟩) hn6 (.int .i64 0)) (p := ⟨g11, 1, none⟩) hn6 (.int .i64 n))
        have B3 := (Below.setCell (Below.setCell (Below.setCell B2 (p := ⟨g11, 0, none⟩) hB (.int .i64 3)) (p := ⟨g11, 2, none⟩) hB (.int .i64 0)) (p := ⟨g11, 1, none⟩) hB (.int .i64 n))
        simp at p11'
        go_upto_region 17 with (go_at_call 31; ((with_reducible refine (HT.out _).mono ?_); rintro e w' ⟨rfl, rfl⟩))
        clear c10 c11 f11
        generalize (World.setCell (World.setCell (World.setCell w5 ⟨g11, 0, none⟩ (.int .i64 3)) ⟨g11, 2, none⟩ (.int .i64 0)) ⟨g11, 1, none⟩ (.int .i64 n)) = w7 at p11' p6' B3 ⊢
        clear p6 p10 p11 B2
        have c11 := p11'.cell
        have c6 := p6'.cell
        have f6 := p6'.frozen
        simp at c11 c6
        go_region
        all_goals
          go_wp2_with fail
          refine bodyPost_ret (v := .tuple #[.agg #[.int .i64 3, .int .i64 n, .int .i64 0], .bool (3 != x.s)]) ?_ rfl ⟨?_, ?_⟩
          · simp [results, Tryd.results14, go_sem, bne, c6]
          · rw [HB.out, HREP.out]
          · refine B3.trans ?_
            (repeat (first | with_reducible assumption | with_reducible exact Below.refl _ _ | with_reducible refine Below.drew ?_ | with_reducible refine Below.setCell ?_ (by first | exact Nat.le_refl _ | exact Nat.le_add_right _ _ | assumption | omega | (simp; done) | (simp; omega)) _ | with_reducible refine Below.alloc ?_ (by first | exact Nat.le_refl _ | exact Nat.le_add_right _ _ | assumption | omega | (simp; done) | (simp; omega)) _ | refine Below.drew ?_ | refine Below.setCell ?_ (by first | exact Nat.le_refl _ | exact Nat.le_add_right _ _ | assumption | omega | (simp; done) | (simp; omega)) _ | refine Below.alloc ?_ (by first | exact Nat.le_refl _ | exact Nat.le_add_right _ _ | assumption | omega | (simp; done) | (simp; omega)) _))
      · have j1 : (x.s == 3) = false := by simp [h2]
        by_cases h4 : k.st - 1 ≤ x.k
        · have HREP : r = ⟨3, n, 0⟩ := by
            rw [← HR.out]
            unfold repL
            rw [if_neg h1, if_pos h3, if_neg h2, if_pos h4]
          have HREP := Lib.hid HREP
          have p11' := (Blk.set_ (Blk.set_ (Blk.set_ p11 0 (.int .i64 3)) 2 (.int .i64 0)) 1 (.int .i64 n))
          have p6' := (Blk.far (Blk.far (Blk.far p6 (p := ⟨g11, 0, none⟩) hn6 (.int .i64 3)) (p := ⟨g11, 2, none⟩) hn6 (.int .i64 0)) (p := ⟨g11, 1, none⟩) hn6 (.int .i64 n))
          have B3 := (Below.setCell (Below.setCell (Below.setCell B2 (p := ⟨g11, 0, none⟩) hB (.int .i64 3)) (p := ⟨g11, 2, none⟩) hB (.int .i64 0)) (p := ⟨g11, 1, none⟩) hB (.int .i64 n))
          simp at p11'
          go_upto_region 17 with (go_at_call 31; ((with_reducible refine (HT.out _).mono ?_); rintro e w' ⟨rfl, rfl⟩))
          clear c10 c11 f11
          generalize (World.setCell (World.setCell (World.setCell w5 ⟨g11, 0, none⟩ (.int .i64 3)) ⟨g11, 2, none⟩ (.int .i64 0)) ⟨g11, 1, none⟩ (.int .i64 n)) = w7 at p11' p6' B3 ⊢
          clear p6 p10 p11 B2
          have c11 := p11'.cell
          have c6 := p6'.cell
          have f6 := p6'.frozen
          simp at c11 c6
          go_region
          all_goals
            go_wp2_with fail
            refine bodyPost_ret (v := .tuple #[.agg #[.int .i64 3, .int .i64 n, .int .i64 0], .bool (3 != x.s)]) ?_ rfl ⟨?_, ?_⟩
            · simp [results, Tryd.results14, go_sem, bne, c6]
            · rw [HB.out, HREP.out]
            · refine B3.trans ?_
              (repeat (first | with_reducible assumption | with_reducible exact Below.refl _ _ | with_reducible refine Below.drew ?_ | with_reducible refine Below.setCell ?_ (by first | exact Nat.le_refl _ | exact Nat.le_add_right _ _ | assumption | omega | (simp; done) | (simp; omega)) _ | with_reducible refine Below.alloc ?_ (by first | exact Nat.le_refl _ | exact Nat.le_add_right _ _ | assumption | omega | (simp; done) | (simp; omega)) _ | refine Below.drew ?_ | refine Below.setCell ?_ (by first | exact Nat.le_refl _ | exact Nat.le_add_right _ _ | assumption | omega | (simp; done) | (simp; omega)) _ | refine Below.alloc ?_ (by first | exact Nat.le_refl _ | exact Nat.le_add_right _ _ | assumption | omega | (simp; done) | (simp; omega)) _))
        · have wk : IntKind.i64.wrap (x.k + 1) = x.k + 1 := IntWalk.i64_in _ (by omega)
          by_cases h5 : x.s = 1
          · have j5 : (x.s == 1) = true := by simp [h5]
            have HREP : r = ⟨2, n, (x.k + 1)⟩ := by
              rw [← HR.out]
              unfold repL
              rw [if_neg h1, if_pos h3, if_neg h2, if_neg h4, if_pos h5]
            have HREP := Lib.hid HREP
            clear h5
            have j6 : decide (x.s = 1) = true := by simpa using j5
            have p11' := (Blk.set_ (Blk.set_ (Blk.set_ p11 2 (.int .i64 (x.k + 1))) 0 (.int .i64 2)) 1 (.int .i64 n))
            have p6' := (Blk.far (Blk.far (Blk.far p6 (p := ⟨g11, 2, none⟩) hn6 (.int .i64 (x.k + 1))) (p := ⟨g11, 0, none⟩) hn6 (.int .i64 2)) (p := ⟨g11, 1, none⟩) hn6 (.int .i64 n))
            have B3 := (Below.setCell (Below.setCell (Below.setCell B2 (p := ⟨g11, 2, none⟩) hB (.int .i64 (x.k + 1))) (p := ⟨g11, 0, none⟩) hB (.int .i64 2)) (p := ⟨g11, 1, none⟩) hB (.int .i64 n))
            simp at p11'
            go_upto_region 17 with (go_at_call 31; ((with_reducible refine (HT.out _).mono ?_); rintro e w' ⟨rfl, rfl⟩))
            clear c10 c11 f11
            generalize (World.setCell (World.setCell (World.setCell w5 ⟨g11, 2, none⟩ (.int .i64 (x.k + 1))) ⟨g11, 0, none⟩ (.int .i64 2)) ⟨g11, 1, none⟩ (.int .i64 n)) = w7 at p11' p6' B3 ⊢
            clear p6 p10 p11 B2
            have c11 := p11'.cell
            have c6 := p6'.cell
            have f6 := p6'.frozen
            simp at c11 c6
            go_region
            all_goals
              go_wp2_with fail
              refine bodyPost_ret (v := .tuple #[.agg #[.int .i64 2, .int .i64 n, .int .i64 (x.k + 1)], .bool (2 != x.s)]) ?_ rfl ⟨?_, ?_⟩
              · simp [results, Tryd.results14, go_sem, bne, c6]
              · rw [HB.out, HREP.out]
              · refine B3.trans ?_
                (repeat (first | with_reducible assumption | with_reducible exact Below.refl _ _ | with_reducible refine Below.drew ?_ | with_reducible refine Below.setCell ?_ (by first | exact Nat.le_refl _ | exact Nat.le_add_right _ _ | assumption | omega | (simp; done) | (simp; omega)) _ | with_reducible refine Below.alloc ?_ (by first | exact Nat.le_refl _ | exact Nat.le_add_right _ _ | assumption | omega | (simp; done) | (simp; omega)) _ | refine Below.drew ?_ | refine Below.setCell ?_ (by first | exact Nat.le_refl _ | exact Nat.le_add_right _ _ | assumption | omega | (simp; done) | (simp; omega)) _ | refine Below.alloc ?_ (by first | exact Nat.le_refl _ | exact Nat.le_add_right _ _ | assumption | omega | (simp; done) | (simp; omega)) _))
          · have j5 : (x.s == 1) = false := by simp [h5]
            have HREP : r = ⟨x.s, n, (x.k + 1)⟩ := by
              rw [← HR.out]
              unfold repL
              rw [if_neg h1, if_pos h3, if_neg h2, if_neg h4, if_neg h5]
            have HREP := Lib.hid HREP
            have p11' := (Blk.set_ (Blk.set_ p11 2 (.int .i64 (x.k + 1))) 1 (.int .i64 n))
            have p6' := (Blk.far (Blk.far p6 (p := ⟨g11, 2, none⟩) hn6 (.int .i64 (x.k + 1))) (p := ⟨g11, 1, none⟩) hn6 (.int .i64 n))
            have B3 := (Below.setCell (Below.setCell B2 (p := ⟨g11, 2, none⟩) hB (.int .i64 (x.k + 1))) (p := ⟨g11, 1, none⟩) hB (.int .i64 n))
            simp at p11'
            go_upto_region 17 with (go_at_call 31; ((with_reducible refine (HT.out _).mono ?_); rintro e w' ⟨rfl, rfl⟩))
            clear c10 c11 f11
            generalize (World.setCell (World.setCell w5 ⟨g11, 2, none⟩ (.int .i64 (x.k + 1))) ⟨g11, 1, none⟩ (.int .i64 n)) = w7 at p11' p6' B3 ⊢
            clear p6 p10 p11 B2
            have c11 := p11'.cell
            have c6 := p6'.cell
            have f6 := p6'.frozen
            simp at c11 c6
            go_region
            all_goals
              go_wp2_with fail
              refine bodyPost_ret (v := .tuple #[.agg #[.int .i64 x.s, .int .i64 n, .int .i64 (x.k + 1)], .bool (x.s != x.s)]) ?_ rfl ⟨?_, ?_⟩
              · simp [results, Tryd.results14, go_sem, bne, c6]
              · rw [HB.out, HREP.out]
              · refine B3.trans ?_
                (repeat (first | with_reducible assumption | with_reducible exact Below.refl _ _ | with_reducible refine Below.drew ?_ | with_reducible refine Below.setCell ?_ (by first | exact Nat.le_refl _ | exact Nat.le_add_right _ _ | assumption | omega | (simp; done) | (simp; omega)) _ | with_reducible refine Below.alloc ?_ (by first | exact Nat.le_refl _ | exact Nat.le_add_right _ _ | assumption | omega | (simp; done) | (simp; omega)) _ | refine Below.drew ?_ | refine Below.setCell ?_ (by first | exact Nat.le_refl _ | exact Nat.le_add_right _ _ | assumption | omega | (simp; done) | (simp; omega)) _ | refine Below.alloc ?_ (by first | exact Nat.le_refl _ | exact Nat.le_add_right _ _ | assumption | omega | (simp; done) | (simp; omega)) _))
    · have HREP : r = ⟨x.s, n, x.k⟩ := by
        rw [← HR.out]
        unfold repL
        rw [if_neg h1, if_neg h3]
      have HREP := Lib.hid HREP
      have p11' := (Blk.set_ p11 1 (.int .i64 n))
      have p6' := (Blk.far p6 (p := ⟨g11, 1, none⟩) hn6 (.int .i64 n))
      have B3 := (Below.setCell B2 (p := ⟨g11, 1, none⟩) hB (.int .i64 n))
      simp at p11'
      go_upto_region 17 with (go_at_call 31; ((with_reducible refine (HT.out _).mono ?_); rintro e w' ⟨rfl, rfl⟩))
      clear c10 c11 f11
      generalize (World.setCell w5 ⟨g11, 1, none⟩ (.int .i64 n)) = w7 at p11' p6' B3 ⊢
      clear p6 p10 p11 B2
      have c11 := p11'.cell
      have c6 := p6'.cell
      have f6 := p6'.frozen
      simp at c11 c6
      go_region
      all_goals
        go_wp2_with fail
        refine bodyPost_ret (v := .tuple #[.agg #[.int .i64 x.s, .int .i64 n, .int .i64 x.k], .bool (x.s != x.s)]) ?_ rfl ⟨?_, ?_⟩
        · simp [results, Tryd.results14, go_sem, bne, c6]
        · rw [HB.out, HREP.out]
        · refine B3.trans ?_
          (repeat (first | with_reducible assumption | with_reducible exact Below.refl _ _ | with_reducible refine Below.drew ?_ | with_reducible refine Below.setCell ?_ (by first | exact Nat.le_refl _ | exact Nat.le_add_right _ _ | assumption | omega | (simp; done) | (simp; omega)) _ | with_reducible refine Below.alloc ?_ (by first | exact Nat.le_refl _ | exact Nat.le_add_right _ _ | assumption | omega | (simp; done) | (simp; omega)) _ | refine Below.drew ?_ | refine Below.setCell ?_ (by first | exact Nat.le_refl _ | exact Nat.le_add_right _ _ | assumption | omega | (simp; done) | (simp; omega)) _ | refine Below.alloc ?_ (by first | exact Nat.le_refl _ | exact Nat.le_add_right _ _ | assumption | omega | (simp; done) | (simp; omega)) _))
end Go.Proofs.YthngobikokhdlaaDoor
