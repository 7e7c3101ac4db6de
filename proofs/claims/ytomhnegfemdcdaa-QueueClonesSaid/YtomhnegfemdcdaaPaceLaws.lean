/- Layer 19's awake and what the statements share, walked. No condition. -/
import Derived.Test.YtomhnegfemdcdaaPaceRef
import Derived.Test.YtomhnegfemdcdaaRegion
namespace Go.Proofs.Ytomhnegfemdcdaa
open Go.RowKit BigFrame
attribute [local go_sem ↓] Go.wp_at_zero Go.wp_at_succ

theorem ownp_eql (x0 y0 : Int) (x1 y1 : Int) (x2 y2 : Int) (x3 y3 : Int) (w : World) : (binOp .eql 25 (.agg #[.int .i64 x0, .int .i64 x1, .int .i64 x2, .int .i64 x3]) (.agg #[.int .i64 y0, .int .i64 y1, .int .i64 y2, .int .i64 y3])).run Try.prog w = .ok (.bool ((x0 == y0) && (x1 == y1) && (x2 == y2) && (x3 == y3))) w := by
  have hS : Try.prog.underlying 25 = some (.struct (Try.prog.fieldsOf 25)) := by kernel_rfl
  have hp : Try.prog.stoodInHeld 25 = false := by kernel_rfl
  have u3 := Try.underlying3
  have a3 := Try.isAgg3
  have z3 := Try.sizeOf3
  rw [run_eql_struct, show (10000 : Nat) = 9999 + 1 from rfl, run_equalIn_agg w 9999 25 _ _ hS hp]
  simp only [Program.fieldsOf, Try.underlying25]
  go_simp
  by_cases h0 : x0 = y0
  rotate_left
  · simp [h0]
  subst h0
  by_cases h1 : x1 = y1
  rotate_left
  · simp [h1]
  subst h1
  by_cases h2 : x2 = y2
  rotate_left
  · simp [h2]
  subst h2
  by_cases h3 : x3 = y3
  rotate_left
  · simp [h3]
  subst h3
  simp []
theorem ownp_neq (x0 y0 : Int) (x1 y1 : Int) (x2 y2 : Int) (x3 y3 : Int) (w : World) : (binOp .neq 25 (.agg #[.int .i64 x0, .int .i64 x1, .int .i64 x2, .int .i64 x3]) (.agg #[.int .i64 y0, .int .i64 y1, .int .i64 y2, .int .i64 y3])).run Try.prog w = .ok (.bool (!((x0 == y0) && (x1 == y1) && (x2 == y2) && (x3 == y3)))) w := by
  have hS : Try.prog.underlying 25 = some (.struct (Try.prog.fieldsOf 25)) := by kernel_rfl
  have hp : Try.prog.stoodInHeld 25 = false := by kernel_rfl
  have u3 := Try.underlying3
  have a3 := Try.isAgg3
  have z3 := Try.sizeOf3
  rw [run_neq_struct, show (10000 : Nat) = 9999 + 1 from rfl, run_equalIn_agg w 9999 25 _ _ hS hp]
  simp only [Program.fieldsOf, Try.underlying25]
  go_simp
  by_cases h0 : x0 = y0
  rotate_left
  · simp [h0]
  subst h0
  by_cases h1 : x1 = y1
  rotate_left
  · simp [h1]
  subst h1
  by_cases h2 : x2 = y2
  rotate_left
  · simp [h2]
  subst h2
  by_cases h3 : x3 = y3
  rotate_left
  · simp [h3]
  subst h3
  simp []
theorem ownp_guard (op : BinOp) (x y : Operand) (xs ys : Array Value) (w : World) : (eqGuard op 25 x y (.agg xs) (.agg ys)).run Try.prog w = .ok () w := run_eqGuard_agg w op 25 x y xs ys (by kernel_rfl)

theorem refp_eql (x0 y0 : Int) (x1 y1 : Int) (x2 y2 : Int) (x3 y3 : Int) (w : World) : (binOp .eql 33 (.agg #[.int .i64 x0, .int .i64 x1, .int .i64 x2, .int .i64 x3]) (.agg #[.int .i64 y0, .int .i64 y1, .int .i64 y2, .int .i64 y3])).run Try.prog w = .ok (.bool ((x0 == y0) && (x1 == y1) && (x2 == y2) && (x3 == y3))) w := by
  have hS : Try.prog.underlying 33 = some (.struct (Try.prog.fieldsOf 33)) := by kernel_rfl
  have hp : Try.prog.stoodInHeld 33 = false := by kernel_rfl
  have u3 := Try.underlying3
  have a3 := Try.isAgg3
  have z3 := Try.sizeOf3
  rw [run_eql_struct, show (10000 : Nat) = 9999 + 1 from rfl, run_equalIn_agg w 9999 33 _ _ hS hp]
  simp only [Program.fieldsOf, Try.underlying33]
  go_simp
  by_cases h0 : x0 = y0
  rotate_left
  · simp [h0]
  subst h0
  by_cases h1 : x1 = y1
  rotate_left
  · simp [h1]
  subst h1
  by_cases h2 : x2 = y2
  rotate_left
  · simp [h2]
  subst h2
  by_cases h3 : x3 = y3
  rotate_left
  · simp [h3]
  subst h3
  simp []
theorem refp_neq (x0 y0 : Int) (x1 y1 : Int) (x2 y2 : Int) (x3 y3 : Int) (w : World) : (binOp .neq 33 (.agg #[.int .i64 x0, .int .i64 x1, .int .i64 x2, .int .i64 x3]) (.agg #[.int .i64 y0, .int .i64 y1, .int .i64 y2, .int .i64 y3])).run Try.prog w = .ok (.bool (!((x0 == y0) && (x1 == y1) && (x2 == y2) && (x3 == y3)))) w := by
  have hS : Try.prog.underlying 33 = some (.struct (Try.prog.fieldsOf 33)) := by kernel_rfl
  have hp : Try.prog.stoodInHeld 33 = false := by kernel_rfl
  have u3 := Try.underlying3
  have a3 := Try.isAgg3
  have z3 := Try.sizeOf3
  rw [run_neq_struct, show (10000 : Nat) = 9999 + 1 from rfl, run_equalIn_agg w 9999 33 _ _ hS hp]
  simp only [Program.fieldsOf, Try.underlying33]
  go_simp
  by_cases h0 : x0 = y0
  rotate_left
  · simp [h0]
  subst h0
  by_cases h1 : x1 = y1
  rotate_left
  · simp [h1]
  subst h1
  by_cases h2 : x2 = y2
  rotate_left
  · simp [h2]
  subst h2
  by_cases h3 : x3 = y3
  rotate_left
  · simp [h3]
  subst h3
  simp []
theorem refp_guard (op : BinOp) (x y : Operand) (xs ys : Array Value) (w : World) : (eqGuard op 33 x y (.agg xs) (.agg ys)).run Try.prog w = .ok () w := run_eqGuard_agg w op 33 x y xs ys (by kernel_rfl)

theorem ownp_eql1 (x0 x1 x2 x3 : Int) (w : World) : (binOp .eql 25 (.agg #[.int .i64 x0, .int .i64 x1, .int .i64 x2, .int .i64 x3]) (.agg #[.int .i64 x0, .int .i64 x1, .int .i64 x2, .int .i64 x3])).run Try.prog w = .ok (.bool true) w := by
  rw [ownp_eql]; simp
theorem refp_eql1 (x0 x1 x2 x3 : Int) (w : World) : (binOp .eql 33 (.agg #[.int .i64 x0, .int .i64 x1, .int .i64 x2, .int .i64 x3]) (.agg #[.int .i64 x0, .int .i64 x1, .int .i64 x2, .int .i64 x3])).run Try.prog w = .ok (.bool true) w := by
  rw [refp_eql]; simp
theorem refp_neq1 (x0 x1 x2 x3 : Int) (w : World) : (binOp .neq 33 (.agg #[.int .i64 x0, .int .i64 x1, .int .i64 x2, .int .i64 x3]) (.agg #[.int .i64 x0, .int .i64 x1, .int .i64 x2, .int .i64 x3])).run Try.prog w = .ok (.bool false) w := by
  rw [refp_neq]; simp
attribute [local go_sem] ownp_eql1 ownp_guard

set_option maxHeartbeats 1000000 in
theorem pace_When25 (w : World) :
    Calls Try.prog 30 #[.agg #[.int .i64 10, .int .i64 100, .int .i64 0, .int .i64 0], .int .i64 25] w fun e w' => e = .returned (.int .i64 3) ∧ Below w.heap.size w w' := by
  have hf : fitP ⟨10, 100, 0, 0⟩ = ⟨10, 100, 0, 0⟩ := by decide
  have HF := Lib.hid (fun W => pace_fit ⟨10, 100, 0, 0⟩ _ hf W)
  clear hf
  go_enter Try.func30, Try.ntmps30
  go_wp2_with fail
  refine (HF.out _).mono ?_
  rintro e w1 ⟨rfl, hb⟩
  have k1 := (Blk.new w 25 #[.int .i64 10, .int .i64 100, .int .i64 0, .int .i64 0]).below hb (by simp)
  have B1 : Below w.heap.size w w1 := ((Below.refl _ w).alloc (Nat.le_refl _) _).trans (hb.mono (by simp))
  clear hb HF
  have c0 := k1.cell
  have f0 := k1.frozen
  simp at c0
  go_upto_region 2 with fail
  obtain ⟨w2, e2, k1', B2, hk⟩ := four_set k1 rfl (.int .i64 10) (.int .i64 100) (.int .i64 0) (.int .i64 0) w.heap.size (Nat.le_refl _)
  rw [e2]
  have B3 := B1.trans B2
  clear e2 B2 hk k1 B1 c0 f0
  have E0 := fun (g : Ext w2) => g.cell (k1'.cell 0) k1'.lt
  have E3 := fun (g : Ext w2) => g.cell (k1'.cell 3) k1'.lt
  have c0 := k1'.cell
  simp at c0 E0 E3
  go_wp2_with fail
  refine wp_region_ext (by kernel_rfl) (by kernel_rfl) ?_; (repeat (go_big_quiet_step (fail))); refine wpQuiet_nil ?_; rintro _ ⟨gq, rfl⟩
  go_wp2
  go_ret
  exact ⟨rfl, B3.trans (gq.below.mono B3.size)⟩

set_option maxHeartbeats 1000000 in
theorem pace_When101 (w : World) :
    Calls Try.prog 30 #[.agg #[.int .i64 10, .int .i64 100, .int .i64 0, .int .i64 0], .int .i64 101] w fun e w' => e = .returned (.int .i64 (-1)) ∧ Below w.heap.size w w' := by
  have hf : fitP ⟨10, 100, 0, 0⟩ = ⟨10, 100, 0, 0⟩ := by decide
  have HF := Lib.hid (fun W => pace_fit ⟨10, 100, 0, 0⟩ _ hf W)
  clear hf
  go_enter Try.func30, Try.ntmps30
  go_wp2_with fail
  refine (HF.out _).mono ?_
  rintro e w1 ⟨rfl, hb⟩
  have k1 := (Blk.new w 25 #[.int .i64 10, .int .i64 100, .int .i64 0, .int .i64 0]).below hb (by simp)
  have B1 : Below w.heap.size w w1 := ((Below.refl _ w).alloc (Nat.le_refl _) _).trans (hb.mono (by simp))
  clear hb HF
  have c0 := k1.cell
  have f0 := k1.frozen
  simp at c0
  go_upto_region 2 with fail
  obtain ⟨w2, e2, k1', B2, hk⟩ := four_set k1 rfl (.int .i64 10) (.int .i64 100) (.int .i64 0) (.int .i64 0) w.heap.size (Nat.le_refl _)
  rw [e2]
  have B3 := B1.trans B2
  clear e2 B2 hk k1 B1 c0 f0
  have c0 := k1'.cell
  simp at c0
  go_wp2
  go_ret
  exact ⟨rfl, B3⟩

set_option maxHeartbeats 1000000 in
theorem law19_awake (w : World) :
    Calls Try.prog 10 #[] w fun e w' => e = .returned (.bool true) ∧ Below w.heap.size w w' := by
  have e1 : fitP ⟨10, 100, 1048576, 0⟩ = ⟨10, 100, 100, 0⟩ := by decide
  have e2 : takeP ⟨10, 100, 100, 0⟩ 0 100 = (⟨10, 100, 0, 0⟩, true) := by decide
  have H1 := Lib.hid (fun W => pace_New 10 100 0 _ e1 W)
  have H2 := Lib.hid (fun W => pace_Take ⟨10, 100, 100, 0⟩ _ _ 0 100 e2 W)
  clear e1 e2
  go_enter Try.func10, Try.ntmps10
  go_wp2_with fail
  refine (H1.out _).mono ?_
  rintro e w1 ⟨rfl, hb1⟩
  go_wp2_with fail
  refine (H2.out _).mono ?_
  rintro e w2 ⟨rfl, hb2⟩
  have B2 : Below w.heap.size w w2 := hb1.trans (hb2.mono hb1.size)
  have k2 := Blk.new w2 25 #[.int .i64 10, .int .i64 100, .int .i64 0, .int .i64 0]
  clear hb1 hb2 H1 H2
  go_wp2_with fail
  refine (pace_When25 _).mono ?_
  rintro e w3 ⟨rfl, hb3⟩
  have k3 := k2.below hb3 (by simp)
  have B3 : Below w.heap.size w w3 := (B2.alloc B2.size _).trans (hb3.mono (Nat.le_trans B2.size (by simp)))
  have c3 := k3.cell
  simp at c3
  clear hb3 k2
  go_wp2_with fail
  refine (pace_When101 _).mono ?_
  rintro e w4 ⟨rfl, hb4⟩
  have B4 : Below w.heap.size w w4 := B3.trans (hb4.mono B3.size)
  go_wp2
  go_ret
  exact ⟨rfl, B4⟩
end Go.Proofs.Ytomhnegfemdcdaa
