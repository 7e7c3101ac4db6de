/- The functions of package loss that look at a source, walked. No condition but the numbers' bounds. -/
import Derived.Test.YtfoefkoneekolaaDoorSourceTwice
import Derived.Test.YtfoefkoneekolaaDoorLoss
namespace Go.Proofs.YtfoefkoneekolaaDoor
open Go.RowKit
attribute [local go_sem ↓] Go.wp_at_zero Go.wp_at_succ

set_option maxHeartbeats 1000000 in
theorem loss_of (s : S6) (k : Int) (hs : InS k s) (hk : k ≤ 1000000) (v : Int) (h : expS s = v) (w : World) :
    Calls Tryd.prog 16 #[.agg #[.int .u16 s.mx, .int .i64 s.cy, .int .i64 s.ba, .int .i64 s.bd, .int .i64 s.pr, .int .i64 s.rc]] w fun e w' => e = .returned (.agg #[.int .i64 v, .int .i64 s.rc]) ∧ Below w.heap.size w w' := by
  have HE := Lib.hid (fun W => source_Expected s k hs hk v h W)
  obtain ⟨m0, m1, c0, c1, a0, a1, d0, d1, p0, p1, q0, q1⟩ := hs
  clear h
  obtain ⟨mx, cy, ba, bd, pr, rc⟩ := s
  simp only at *
  have k1 := (Blk.new w 27 #[.int .u16 mx, .int .i64 cy, .int .i64 ba, .int .i64 bd, .int .i64 pr, .int .i64 rc]).alloc (.cells #[.int .i64 0, .int .i64 0] 33)
  have k2 := Blk.new1 w (.cells #[.int .u16 mx, .int .i64 cy, .int .i64 ba, .int .i64 bd, .int .i64 pr, .int .i64 rc] 27) 33 #[.int .i64 0, .int .i64 0]
  have B2 := ((Below.refl w.heap.size w).alloc (Nat.le_refl _) (.cells #[.int .u16 mx, .int .i64 cy, .int .i64 ba, .int .i64 bd, .int .i64 pr, .int .i64 rc] 27)).alloc (by simp) (.cells #[.int .i64 0, .int .i64 0] 33)
  go_enter Tryd.func16, Tryd.ntmps16
  go_wp2_with fail
  generalize (w.alloc (.cells #[.int .u16 mx, .int .i64 cy, .int .i64 ba, .int .i64 bd, .int .i64 pr, .int .i64 rc] 27)).alloc (.cells #[.int .i64 0, .int .i64 0] 33) = w2 at *
  have E0 := fun (g : Ext w2) => g.cell (k1.cell 0) k1.lt
  have E1 := fun (g : Ext w2) => g.cell (k1.cell 1) k1.lt
  have E2 := fun (g : Ext w2) => g.cell (k1.cell 2) k1.lt
  have E3 := fun (g : Ext w2) => g.cell (k1.cell 3) k1.lt
  have E4 := fun (g : Ext w2) => g.cell (k1.cell 4) k1.lt
  have E5 := fun (g : Ext w2) => g.cell (k1.cell 5) k1.lt
  simp at E0 E1 E2 E3 E4 E5
  refine wp_region_ext_tail 5 (by kernel_rfl) (by kernel_rfl) ?_; simp only [List.take_succ_cons, List.take_zero, List.drop_succ_cons, List.drop_zero]; (repeat (go_big_quiet_step ((first | (go_at_call 28; with_reducible exact calls_ext _ (HE.out _)))))); refine wpQuiet_nil ?_; rintro _ ⟨gq, rfl⟩
  have k3 := k2.below gq.below k2.lt
  have B3 := below_then B2 gq.below (by omega)
  clear E0 E1 E2 E3 E4 E5 k1
  obtain ⟨w3, e3, k4, B4, -⟩ := two_set k3 rfl (.int .i64 v) (.int .i64 rc) w.heap.size (by omega)
  have B5 := B3.trans B4
  have c3 := k3.cell
  have f3 := k3.frozen
  have c4 := k4.cell
  simp at c3 c4
  go_wp2_with fail
  all_goals
    try rw [e3]
    refine bodyPost_ret (v := .agg #[.int .i64 v, .int .i64 rc]) ?_ rfl ⟨rfl, B5⟩
    simp [results, Tryd.results16, go_sem, c4]
set_option maxHeartbeats 2000000 in
theorem tally_Next (t0 t1 : Int) (s : S6) (k : Int) (hs : InS k s) (hk : k ≤ 1000000) (v : Int) (h : expS s = v) (x0 : -99999999999 ≤ t0) (x1 : t0 ≤ 99999999999) (y0 : -99999999999 ≤ t1) (y1 : t1 ≤ 99999999999) (v0 : -99999999999 ≤ v) (v1 : v ≤ 99999999999) (f c : Int) (hf : fracI (v - t0) (s.rc - t1) = f) (hc : clipI (v - s.rc) (-8388608) 8388607 = c) (w : World) :
    Calls Tryd.prog 7 #[.agg #[.int .i64 t0, .int .i64 t1], .agg #[.int .u16 s.mx, .int .i64 s.cy, .int .i64 s.ba, .int .i64 s.bd, .int .i64 s.pr, .int .i64 s.rc]] w fun e w' => e = .returned (.tuple #[.agg #[.int .i64 v, .int .i64 s.rc], .int .i64 f, .int .i64 c]) ∧ Below w.heap.size w w' := by
  have HO := Lib.hid (fun W => loss_of s k hs hk v h W)
  have HF := Lib.hid (fun W => loss_Fraction (v - t0) (s.rc - t1) f hf W)
  have HC := Lib.hid (fun W => loss_clip (v - s.rc) (-8388608) 8388607 c hc W)
  obtain ⟨m0, m1, c0, c1, a0, a1, d0, d1, p0, p1, q0, q1⟩ := hs
  clear h hf hc
  obtain ⟨mx, cy, ba, bd, pr, rc⟩ := s
  simp only at *
  have k2 := ((Blk.new w 33 #[.int .i64 t0, .int .i64 t1]).alloc (.cells #[.int .u16 mx, .int .i64 cy, .int .i64 ba, .int .i64 bd, .int .i64 pr, .int .i64 rc] 27)).alloc (.cells #[.int .i64 0, .int .i64 0] 33)
  have k3 := (Blk.new1 w (.cells #[.int .i64 t0, .int .i64 t1] 33) 27 #[.int .u16 mx, .int .i64 cy, .int .i64 ba, .int .i64 bd, .int .i64 pr, .int .i64 rc]).alloc (.cells #[.int .i64 0, .int .i64 0] 33)
  have k4 := Blk.new ((w.alloc (.cells #[.int .i64 t0, .int .i64 t1] 33)).alloc (.cells #[.int .u16 mx, .int .i64 cy, .int .i64 ba, .int .i64 bd, .int .i64 pr, .int .i64 rc] 27)) 33 #[.int .i64 0, .int .i64 0]
  have B4 := (((Below.refl w.heap.size w).alloc (Nat.le_refl _) (.cells #[.int .i64 t0, .int .i64 t1] 33)).alloc (by simp) (.cells #[.int .u16 mx, .int .i64 cy, .int .i64 ba, .int .i64 bd, .int .i64 pr, .int .i64 rc] 27)).alloc (by first | (simp; done) | (simp; omega)) (.cells #[.int .i64 0, .int .i64 0] 33)
  have hs2 : ((w.alloc (.cells #[.int .i64 t0, .int .i64 t1] 33)).alloc (.cells #[.int .u16 mx, .int .i64 cy, .int .i64 ba, .int .i64 bd, .int .i64 pr, .int .i64 rc] 27)).heap.size = w.heap.size + 2 := by simp
  rw [hs2] at k4
  go_enter Tryd.func7, Tryd.ntmps7
  go_wp2_with fail
  refine (HO.out _).mono ?_
  rintro e w5 ⟨rfl, hb5⟩
  have k2 := k2.below hb5 k2.lt
  have k3 := k3.below hb5 k3.lt
  have k4 := k4.below hb5 k4.lt
  have B5 := below_then B4 hb5 (by first | (simp; done) | (simp; omega))
  clear hb5 B4 k3
  have k7 := Blk.new w5 33 #[.int .i64 v, .int .i64 rc]
  have k2 := k2.alloc (.cells #[.int .i64 v, .int .i64 rc] 33)
  have k4 := k4.alloc (.cells #[.int .i64 v, .int .i64 rc] 33)
  have B6 := B5.alloc B5.size (.cells #[.int .i64 v, .int .i64 rc] 33)
  go_upto_region 2 with fail
  generalize w5.alloc (.cells #[.int .i64 v, .int .i64 rc] 33) = w6 at *
  have E20 := fun (g : Ext w6) => g.cell (k2.cell 0) k2.lt
  have E21 := fun (g : Ext w6) => g.cell (k2.cell 1) k2.lt
  have E70 := fun (g : Ext w6) => g.cell (k7.cell 0) k7.lt
  have E71 := fun (g : Ext w6) => g.cell (k7.cell 1) k7.lt
  simp at E20 E21 E70 E71
  refine wp_region_ext_tail 18 (by kernel_rfl) (by kernel_rfl) ?_; simp only [List.take_succ_cons, List.take_zero, List.drop_succ_cons, List.drop_zero]; (repeat (go_big_quiet_step ((first | (go_at_call 6; with_reducible exact calls_ext_same _ (HF.out _)) | (go_at_call 15; with_reducible exact calls_ext_same _ (HC.out _)))))); refine wpQuiet_nil ?_; rintro _ ⟨gq, rfl⟩
  have k8 := k4.below gq.below k4.lt
  have B8 := below_then B6 gq.below (Nat.le_refl _)
  clear E20 E21 E70 E71 k7 k2 B5 B6
  obtain ⟨w9, e9, k9, B9, -⟩ := two_set k8 rfl (.int .i64 v) (.int .i64 rc) w.heap.size (by omega)
  have B10 := B8.trans B9
  have c8 := k8.cell
  have f8 := k8.frozen
  have c9 := k9.cell
  simp at c8 c9
  go_wp2_with fail
  all_goals
    try rw [e9]
    refine bodyPost_ret (v := .tuple #[.agg #[.int .i64 v, .int .i64 rc], .int .i64 f, .int .i64 c]) ?_ rfl ⟨rfl, B10⟩
    simp [results, Tryd.results7, go_sem, c9]
end Go.Proofs.YtfoefkoneekolaaDoor
