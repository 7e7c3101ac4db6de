/- Package life: Config.Clip, known, low and high, and the reference's Clip and Known, walked. No condition but that the two tables stand. -/
import Derived.Test.YtfoefkoneekolaaDoorLife
import Derived.Test.YtfoefkoneekolaaDoorRegion
import Derived.Deep.DeepCutAuto
namespace Go.Proofs.YtfoefkoneekolaaDoor
open Go.RowKit BigFrame
attribute [local go_sem ↓] Go.wp_at_zero Go.wp_at_succ

set_option maxHeartbeats 1000000 in
theorem life_Clip (c r : C4) (h : clipC c = r) (w : World) :
    Calls Tryd.prog 20 #[.agg #[.int .i64 c.t, .int .i64 c.lo, .int .i64 c.hi, .int .i64 c.st]] w fun e w' => e = .returned (.agg #[.int .i64 r.t, .int .i64 r.lo, .int .i64 r.hi, .int .i64 r.st]) ∧ Below w.heap.size w w' := by
  obtain ⟨rt, rlo, rhi, rst⟩ := r
  unfold clipC at h
  simp only [C4.mk.injEq] at h ⊢
  obtain ⟨h1, h2, h3, h4⟩ := h
  rw [h2] at h3
  have H1 := Lib.hid (fun W => life_clip _ _ _ _ h1 W)
  have H2 := Lib.hid (fun W => life_clip _ _ _ _ h2 W)
  have H3 := Lib.hid (fun W => life_clip _ _ _ _ h3 W)
  have H4 := Lib.hid (fun W => life_clip _ _ _ _ h4 W)
  clear h1 h2 h3 h4
  have k1 := Blk.new w 25 #[.int .i64 c.t, .int .i64 c.lo, .int .i64 c.hi, .int .i64 c.st]
  have k2 := Blk.new (w.alloc (.cells #[.int .i64 c.t, .int .i64 c.lo, .int .i64 c.hi, .int .i64 c.st] 25)) 25 #[.int .i64 0, .int .i64 0, .int .i64 0, .int .i64 0]
  have k1 := k1.alloc (.cells #[.int .i64 0, .int .i64 0, .int .i64 0, .int .i64 0] 25)
  go_enter Tryd.func20, Tryd.ntmps20
  go_wp2_with fail
  generalize hW : (w.alloc (.cells #[.int .i64 c.t, .int .i64 c.lo, .int .i64 c.hi, .int .i64 c.st] 25)).alloc (.cells #[.int .i64 0, .int .i64 0, .int .i64 0, .int .i64 0] 25) = w1 at *
  have B1 : Below w.heap.size w w1 := by rw [← hW]; exact ((Below.refl _ w).alloc (Nat.le_refl _) _).alloc (by simp) _
  simp at k2
  clear hW
  have c0 := k1.cell 0
  have c1 := k1.cell 1
  have c2 := k1.cell 2
  have c3 := k1.cell 3
  have f0 := k1.frozen
  simp at c0 c1 c2 c3
  go_upto_region 1 with fail
  go_cut [] (fun wx => wx = (((w1.setCell ⟨w.heap.size, 0, none⟩ (.int .i64 rt)).setCell ⟨w.heap.size, 1, none⟩ (.int .i64 rlo)).setCell ⟨w.heap.size, 3, none⟩ (.int .i64 rst)).drew)
  case first =>
    go_region_with (first | (go_at_call 27; ((with_reducible refine (H1.out _).mono ?_); rintro e w' ⟨rfl, rfl⟩)) | (go_at_call 27; ((with_reducible refine (H2.out _).mono ?_); rintro e w' ⟨rfl, rfl⟩)) | (go_at_call 27; ((with_reducible refine (H4.out _).mono ?_); rintro e w' ⟨rfl, rfl⟩)))
    all_goals
      go_wp2_with fail
      go_meet
      rfl
  case rest =>
    subst hcut
    have k3 := (((k1.set_ 0 (.int .i64 rt)).set_ 1 (.int .i64 rlo)).set_ 3 (.int .i64 rst)).drew
    have k2' := (((k2.far (p := ⟨w.heap.size, 0, none⟩) (by simp) (.int .i64 rt)).far (p := ⟨w.heap.size, 1, none⟩) (by simp) (.int .i64 rlo)).far (p := ⟨w.heap.size, 3, none⟩) (by simp) (.int .i64 rst)).drew
    have B3 := B1.trans (((((Below.refl w.heap.size w1).setCell (p := ⟨w.heap.size, 0, none⟩) (Nat.le_refl _) (.int .i64 rt)).setCell (p := ⟨w.heap.size, 1, none⟩) (Nat.le_refl _) (.int .i64 rlo)).setCell (p := ⟨w.heap.size, 3, none⟩) (Nat.le_refl _) (.int .i64 rst)).drew)
    generalize (((w1.setCell ⟨w.heap.size, 0, none⟩ (.int .i64 rt)).setCell ⟨w.heap.size, 1, none⟩ (.int .i64 rlo)).setCell ⟨w.heap.size, 3, none⟩ (.int .i64 rst)).drew = w3 at *
    simp at k3
    clear c0 c1 c2 c3 f0 k1 k2 B1
    have c0 := k3.cell
    have f0 := k3.frozen
    have d0 := k2'.cell
    have e0 := k2'.frozen
    simp at c0 d0
    go_wp2_with (go_at_call 27; ((with_reducible refine (H3.out _).mono ?_); rintro e w' ⟨rfl, rfl⟩))
    refine bodyPost_ret (v := .agg #[.int .i64 rt, .int .i64 rlo, .int .i64 rhi, .int .i64 rst]) ?_ rfl ⟨rfl, ?_⟩
    · simp [results, Tryd.results20, go_sem, c0, d0]
    · refine B3.trans ?_
      (repeat (first | with_reducible assumption | with_reducible exact Below.refl _ _ | with_reducible refine Below.drew ?_ | with_reducible refine Below.setCell ?_ (by first | exact Nat.le_refl _ | exact Nat.le_add_right _ _ | assumption | omega | (simp; done) | (simp; omega)) _ | with_reducible refine Below.alloc ?_ (by first | exact Nat.le_refl _ | exact Nat.le_add_right _ _ | assumption | omega | (simp; done) | (simp; omega)) _ | refine Below.drew ?_ | refine Below.setCell ?_ (by first | exact Nat.le_refl _ | exact Nat.le_add_right _ _ | assumption | omega | (simp; done) | (simp; omega)) _ | refine Below.alloc ?_ (by first | exact Nat.le_refl _ | exact Nat.le_add_right _ _ | assumption | omega | (simp; done) | (simp; omega)) _))
end Go.Proofs.YtfoefkoneekolaaDoor
