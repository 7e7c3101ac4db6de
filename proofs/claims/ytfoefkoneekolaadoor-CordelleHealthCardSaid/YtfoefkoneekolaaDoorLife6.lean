/- Package life: New, Sends, Weight and Tick, walked. No condition. -/
import Derived.Test.YtfoefkoneekolaaDoorLife5
namespace Go.Proofs.YtfoefkoneekolaaDoor
open Go.RowKit BigFrame
attribute [local go_sem ↓] Go.wp_at_zero Go.wp_at_succ

theorem fld_life0 (a b c : Int) (w : World) : (Instr.field 37 (.agg #[.int .i64 a, .int .i64 b, .int .i64 c]) 0).run Tryd.prog w = .ok (.int .i64 a) w := by kernel_rfl
attribute [local go_sem] fld_life0

set_option maxHeartbeats 1000000 in
theorem life_New (n r : Int) (h : tickI n = r) (w : World) :
    Calls Tryd.prog 8 #[.int .i64 n] w fun e w' => e = .returned (.agg #[.int .i64 0, .int .i64 r, .int .i64 0]) ∧ Below w.heap.size w w' := by
  have HT := Lib.hid (fun W => life_tick n r h W)
  clear h
  go_enter Tryd.func8, Tryd.ntmps8
  go_wp2_with (go_at_call 17; ((with_reducible refine (HT.out _).mono ?_); rintro e w' ⟨rfl, rfl⟩))
  refine bodyPost_ret (v := .agg #[.int .i64 0, .int .i64 r, .int .i64 0]) ?_ rfl ⟨rfl, ?_⟩
  · simp [results, Tryd.results8, go_sem]
  · (repeat (first | with_reducible assumption | with_reducible exact Below.refl _ _ | with_reducible refine Below.drew ?_ | with_reducible refine Below.setCell ?_ (by first | exact Nat.le_refl _ | exact Nat.le_add_right _ _ | assumption | omega | (simp; done) | (simp; omega)) _ | with_reducible refine Below.alloc ?_ (by first | exact Nat.le_refl _ | exact Nat.le_add_right _ _ | assumption | omega | (simp; done) | (simp; omega)) _ | refine Below.drew ?_ | refine Below.setCell ?_ (by first | exact Nat.le_refl _ | exact Nat.le_add_right _ _ | assumption | omega | (simp; done) | (simp; omega)) _ | refine Below.alloc ?_ (by first | exact Nat.le_refl _ | exact Nat.le_add_right _ _ | assumption | omega | (simp; done) | (simp; omega)) _))

set_option maxHeartbeats 1000000 in
theorem life_Sends (l : L3) (w : World) :
    Calls Tryd.prog 12 #[.agg #[.int .i64 l.s, .int .i64 l.h, .int .i64 l.k]] w fun e w' => e = .returned (.bool ((knownL l).s != 3)) ∧ Below w.heap.size w w' := by
  obtain ⟨x, hx⟩ : ∃ x, knownL l = x := ⟨_, rfl⟩
  have HK := Lib.hid (fun W => life_known l x hx W)
  rw [hx]
  clear hx
  go_enter Tryd.func12, Tryd.ntmps12
  go_wp2_with fail
  refine (HK.out _).mono ?_
  rintro e w1 ⟨rfl, hb⟩
  go_wp2_with fail
  go_ret
  exact ⟨rfl, ((Below.refl _ w).alloc (Nat.le_refl _) _).trans (hb.mono (by simp))⟩

set_option maxHeartbeats 2000000 in
theorem life_Weight (l : L3) (rate r q : Int) (hr : clipI rate 1 65535 = r) (hq : weightL (knownL l).s r = q) (w : World) :
    Calls Tryd.prog 14 #[.agg #[.int .i64 l.s, .int .i64 l.h, .int .i64 l.k], .int .i64 rate] w fun e w' => e = .returned (.int .i64 q) ∧ Below w.heap.size w w' := by
  obtain ⟨x, hx⟩ : ∃ x, knownL l = x := ⟨_, rfl⟩
  have HK := Lib.hid (fun W => life_known l x hx W)
  have hxk : KnownL x := by rw [← hx]; exact knownL_known l
  have hrb := clip_bd rate 1 65535 (by omega)
  rw [hr] at hrb
  rw [hx] at hq
  have HC := Lib.hid (fun W => life_clip _ _ _ _ hr W)
  clear hx hr
  obtain ⟨r1, r2⟩ := hrb
  obtain ⟨hs, _, _, _⟩ := hxk
  obtain ⟨s, t, k⟩ := x
  simp only at hs hq HK
  have w2 : IntKind.i64.wrap (r / 2) = r / 2 := IntWalk.i64_in _ (by omega)
  have w4 : IntKind.i64.wrap (r / 4) = r / 4 := IntWalk.i64_in _ (by omega)
  have HQ := Lib.hid hq
  clear hq
  go_enter Tryd.func14, Tryd.ntmps14
  go_wp2_with (go_at_call 27; ((with_reducible refine (HC.out _).mono ?_); rintro e w' ⟨rfl, rfl⟩))
  refine (HK.out _).mono ?_
  rintro e w1 ⟨rfl, hb⟩
  have B : Below w.heap.size w w1 := ((Below.refl _ w).alloc (Nat.le_refl _) _).trans (hb.mono (by simp))
  clear hb
  rcases hs with rfl | rfl | rfl | rfl
  all_goals
    go_wp2_with fail
    all_goals
      go_ret
      refine ⟨ret_int ?_, B⟩
      have hq := HQ.out
      unfold weightL at hq
      simp at hq
      omega

end Go.Proofs.YtfoefkoneekolaaDoor
