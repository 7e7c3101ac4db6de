/- Package subflow: pieces of another kind, Up; the statements' lines, sameLines, sameAdverts. No condition but how many. (Printed by gen_sub4.py.) -/
import Derived.Test.YtliilcadlijnoaaSubRL
namespace Go.Proofs.Ytliilcadlijnoaa
open Go.RowKit BigFrame
attribute [local go_sem ↓] Go.wp_at_zero Go.wp_at_succ

theorem sub_ToA5 (cnt kd : Int) (s : ByteArray) (h5 : kd ≠ 211 ∨ cnt ≠ 2) (w : World) :
    Calls Try.prog 11 #[.agg #[.int .i64 cnt, .int .i64 kd, .string s]] w fun e w' => e = .returned (.tuple #[.agg #[.int .u32 0, .slice none 0 0], .int .i64 5]) ∧ Below w.heap.size w w' := by
  obtain ⟨K1, K2, B1⟩ := two_newS w #[.int .i64 cnt, .int .i64 kd, .string s] #[.int .u32 0, .slice none 0 0] 33 27
  go_enter Try.func11, Try.ntmps11
  go_upto_region 1 with fail
  generalize (w.alloc (.cells #[.int .i64 cnt, .int .i64 kd, .string s] 33)).alloc (.cells #[.int .u32 0, .slice none 0 0] 27) = w1 at *
  have k1 := K1.cell
  have k2 := K2.cell
  have f2 := K2.frozen
  simp at k1 k2
  obtain ⟨wS, eS, KS, BS, hkS⟩ := two_set K2 rfl (.int .u32 0) (.slice none 0 0) w.heap.size (by omega)
  have cS := KS.cell
  simp at cS
  have BE := B1.trans BS
  by_cases hk : kd = 211
  · have e1 : (kd != 211) = false := by simp [hk]
    have e2 : (cnt != 2) = true := by simp; omega
    clear hk
    go_wp2_with fail
    refine bodyPost_ret (v := .tuple #[.agg #[.int .u32 0, .slice none 0 0], .int .i64 5]) ?_ rfl ⟨rfl, BE⟩
    simp [results, Try.results11, go_sem, cS]
    try rfl
  · have e1 : (kd != 211) = true := by simp [hk]
    clear hk
    go_wp2_with fail
    refine bodyPost_ret (v := .tuple #[.agg #[.int .u32 0, .slice none 0 0], .int .i64 5]) ?_ rfl ⟨rfl, BE⟩
    simp [results, Try.results11, go_sem, cS]
    try rfl
theorem sub_ToL5 (cnt kd : Int) (s : ByteArray) (h5 : kd ≠ 211 ∨ cnt ≠ 1) (w : World) :
    Calls Try.prog 14 #[.agg #[.int .i64 cnt, .int .i64 kd, .string s]] w fun e w' => e = .returned (.tuple #[.agg #[.int .u32 0, .slice none 0 0], .int .i64 5]) ∧ Below w.heap.size w w' := by
  obtain ⟨K1, K2, B1⟩ := two_newS w #[.int .i64 cnt, .int .i64 kd, .string s] #[.int .u32 0, .slice none 0 0] 33 47
  go_enter Try.func14, Try.ntmps14
  go_upto_region 1 with fail
  generalize (w.alloc (.cells #[.int .i64 cnt, .int .i64 kd, .string s] 33)).alloc (.cells #[.int .u32 0, .slice none 0 0] 47) = w1 at *
  have k1 := K1.cell
  have k2 := K2.cell
  have f2 := K2.frozen
  simp at k1 k2
  obtain ⟨wS, eS, KS, BS, hkS⟩ := two_set K2 rfl (.int .u32 0) (.slice none 0 0) w.heap.size (by omega)
  have cS := KS.cell
  simp at cS
  have BE := B1.trans BS
  by_cases hk : kd = 211
  · have e1 : (kd != 211) = false := by simp [hk]
    have e2 : (cnt != 1) = true := by simp; omega
    clear hk
    go_wp2_with fail
    refine bodyPost_ret (v := .tuple #[.agg #[.int .u32 0, .slice none 0 0], .int .i64 5]) ?_ rfl ⟨rfl, BE⟩
    simp [results, Try.results14, go_sem, cS]
    try rfl
  · have e1 : (kd != 211) = true := by simp [hk]
    clear hk
    go_wp2_with fail
    refine bodyPost_ret (v := .tuple #[.agg #[.int .u32 0, .slice none 0 0], .int .i64 5]) ?_ rfl ⟨rfl, BE⟩
    simp [results, Try.results14, go_sem, cS]
    try rfl
theorem ref11_ToA5 (cnt kd : Int) (s : ByteArray) (h5 : kd ≠ 211 ∨ cnt ≠ 2) (w : World) :
    Calls Try.prog 16 #[.agg #[.int .i64 cnt, .int .i64 kd, .string s]] w fun e w' => e = .returned (.tuple #[.int .i64 0, .slice none 0 0, .int .i64 5]) ∧ Below w.heap.size w w' := by
  have K1 := Blk.new w 35 #[.int .i64 cnt, .int .i64 kd, .string s]
  have B1 : Below w.heap.size w (w.alloc (.cells #[.int .i64 cnt, .int .i64 kd, .string s] 35)) := (Below.refl _ w).alloc (Nat.le_refl _) _
  go_enter Try.func16, Try.ntmps16
  go_upto_region 1 with fail
  generalize w.alloc (.cells #[.int .i64 cnt, .int .i64 kd, .string s] 35) = w1 at *
  have k1 := K1.cell
  simp at k1
  by_cases hk : kd = 211
  · have e1 : (kd != 211) = false := by simp [hk]
    have e2 : (cnt != 2) = true := by simp; omega
    clear hk
    go_wp2_with fail
    refine bodyPost_ret (v := .tuple #[.int .i64 0, .slice none 0 0, .int .i64 5]) ?_ rfl ⟨rfl, B1⟩
    simp [results, Try.results16, go_sem]
    try rfl
  · have e1 : (kd != 211) = true := by simp [hk]
    clear hk
    go_wp2_with fail
    refine bodyPost_ret (v := .tuple #[.int .i64 0, .slice none 0 0, .int .i64 5]) ?_ rfl ⟨rfl, B1⟩
    simp [results, Try.results16, go_sem]
    try rfl
theorem ref11_ToL5 (cnt kd : Int) (s : ByteArray) (h5 : kd ≠ 211 ∨ cnt ≠ 1) (w : World) :
    Calls Try.prog 15 #[.agg #[.int .i64 cnt, .int .i64 kd, .string s]] w fun e w' => e = .returned (.tuple #[.int .i64 0, .slice none 0 0, .int .i64 5]) ∧ Below w.heap.size w w' := by
  have K1 := Blk.new w 35 #[.int .i64 cnt, .int .i64 kd, .string s]
  have B1 : Below w.heap.size w (w.alloc (.cells #[.int .i64 cnt, .int .i64 kd, .string s] 35)) := (Below.refl _ w).alloc (Nat.le_refl _) _
  go_enter Try.func15, Try.ntmps15
  go_upto_region 1 with fail
  generalize w.alloc (.cells #[.int .i64 cnt, .int .i64 kd, .string s] 35) = w1 at *
  have k1 := K1.cell
  simp at k1
  by_cases hk : kd = 211
  · have e1 : (kd != 211) = false := by simp [hk]
    have e2 : (cnt != 1) = true := by simp; omega
    clear hk
    go_wp2_with fail
    refine bodyPost_ret (v := .tuple #[.int .i64 0, .slice none 0 0, .int .i64 5]) ?_ rfl ⟨rfl, B1⟩
    simp [results, Try.results15, go_sem]
    try rfl
  · have e1 : (kd != 211) = true := by simp [hk]
    clear hk
    go_wp2_with fail
    refine bodyPost_ret (v := .tuple #[.int .i64 0, .slice none 0 0, .int .i64 5]) ?_ rfl ⟨rfl, B1⟩
    simp [results, Try.results15, go_sem]
    try rfl
theorem radv_eql (x0 y0 : Int) (x1 y1 : Bool) (x2 y2 : Int) (w : World) : (binOp .eql 30 (.agg #[.int .i64 x0, .bool x1, .int .i64 x2]) (.agg #[.int .i64 y0, .bool y1, .int .i64 y2])).run Try.prog w = .ok (.bool ((x0 == y0) && (x1 == y1) && (x2 == y2))) w := by
  have hS : Try.prog.underlying 30 = some (.struct (Try.prog.fieldsOf 30)) := by kernel_rfl
  have hp : Try.prog.stoodInHeld 30 = false := by kernel_rfl
  have u3 := Try.underlying3
  have a3 := Try.isAgg3
  have z3 := Try.sizeOf3
  have u4 := Try.underlying4
  have a4 := Try.isAgg4
  have z4 := Try.sizeOf4
  rw [run_eql_struct, show (10000 : Nat) = 9999 + 1 from rfl, run_equalIn_agg w 9999 30 _ _ hS hp]
  simp only [Program.fieldsOf, Try.underlying30]
  go_simp
  by_cases h0 : x0 = y0
  rotate_left
  · simp [h0]
  subst h0
  by_cases h1 : x1 = y1
  rotate_left
  · simp [h1]
  subst h1
  by_cases h2 : x2 = y2
  rotate_left
  · simp [h2]
  subst h2
  (try simp [])
theorem radv_neq (x0 y0 : Int) (x1 y1 : Bool) (x2 y2 : Int) (w : World) : (binOp .neq 30 (.agg #[.int .i64 x0, .bool x1, .int .i64 x2]) (.agg #[.int .i64 y0, .bool y1, .int .i64 y2])).run Try.prog w = .ok (.bool (!((x0 == y0) && (x1 == y1) && (x2 == y2)))) w := by
  have hS : Try.prog.underlying 30 = some (.struct (Try.prog.fieldsOf 30)) := by kernel_rfl
  have hp : Try.prog.stoodInHeld 30 = false := by kernel_rfl
  have u3 := Try.underlying3
  have a3 := Try.isAgg3
  have z3 := Try.sizeOf3
  have u4 := Try.underlying4
  have a4 := Try.isAgg4
  have z4 := Try.sizeOf4
  rw [run_neq_struct, show (10000 : Nat) = 9999 + 1 from rfl, run_equalIn_agg w 9999 30 _ _ hS hp]
  simp only [Program.fieldsOf, Try.underlying30]
  go_simp
  by_cases h0 : x0 = y0
  rotate_left
  · simp [h0]
  subst h0
  by_cases h1 : x1 = y1
  rotate_left
  · simp [h1]
  subst h1
  by_cases h2 : x2 = y2
  rotate_left
  · simp [h2]
  subst h2
  (try simp [])
theorem radv_guard (op : BinOp) (x y : Operand) (xs ys : Array Value) (w : World) : (eqGuard op 30 x y (.agg xs) (.agg ys)).run Try.prog w = .ok () w := run_eqGuard_agg w op 30 x y xs ys (by kernel_rfl)

theorem radv_neq1 (x0 : Int) (x1 : Bool) (x2 : Int) (w : World) : (binOp .neq 30 (.agg #[.int .i64 x0, .bool x1, .int .i64 x2]) (.agg #[.int .i64 x0, .bool x1, .int .i64 x2])).run Try.prog w = .ok (.bool false) w := by
  rw [radv_neq]; simp
attribute [local go_sem] radv_neq1 radv_guard
set_option maxRecDepth 8000 in
set_option maxHeartbeats 4000000 in
theorem law11_sameAdverts (a b : Option Addr) (n ca cb : Nat) (l : List AdR) (w : World) (A : AdAt w a n ca l) (B0 : AdAt w b n cb l) (hn : n ≤ 100000) :
    Calls Try.prog 12 #[.slice a n ca, .slice b n cb] w fun e w' => e = .returned (.bool true) ∧ Below w.heap.size w w' := by
  have j0 : ((n : Int) != (n : Int)) = false := by simp
  have SB : SliceOf w b n cb 3 (fun i => [.int .i64 (l.getD i zAd).p, .bool (l.getD i zAd).u, .int .i64 (l.getD i zAd).r]) := B0.row
  have SA : SliceOf w a n ca 3 (fun i => [.int .i64 (l.getD i zAd).p, .bool (l.getD i zAd).u, .int .i64 (l.getD i zAd).r]) := A.row
  go_enter Try.func12, Try.ntmps12
  go_wp2_with fail
  go_loopw [13] (fun x13 wr => ∃ k : Nat, k ≤ n ∧ x13 = .int .i64 k ∧ Below w.heap.size w wr) (fun x13 _ => n - (intOf x13).toNat)
  case atStart => exact ⟨0, by omega, rfl, Below.refl _ _⟩
  case round =>
    obtain ⟨k, hk, rfl, B⟩ := hrel
    by_cases hlt : k < n
    · obtain ⟨b1, o1, rfl, l1, hc1⟩ := SA.at3y (by omega)
      obtain ⟨b2, o2, rfl, l2, hc2⟩ := SB.at3y (by omega)
      have p0 : (0 : Int) ≤ (k : Int) := by omega
      have p1 : (k : Int) < (n : Int) := by omega
      have wk : IntKind.i64.wrap ((k : Int) + 1) = ((k + 1 : Nat) : Int) := by rw [IntWalk.i64_in _ (by omega)]; omega
      obtain ⟨x, hx⟩ : ∃ x, l.getD k zAd = x := ⟨_, rfl⟩
      have hd := hc1 k hlt
      have he := hc2 k hlt
      rw [hx] at hd he
      obtain ⟨y0, y1, y2⟩ := x
      simp only at hd he
      obtain ⟨q0, q1, q2⟩ := hd
      obtain ⟨r0, r1, r2⟩ := he
      have D0 := fun (gx : Ext wr) => gx.cell ((B.cell (p := ⟨b1, o1 + k * 3, none⟩) l1).trans q0) (Nat.lt_of_lt_of_le l1 B.size)
      have E0 := fun (gx : Ext wr) => gx.cell ((B.cell (p := ⟨b2, o2 + k * 3, none⟩) l2).trans r0) (Nat.lt_of_lt_of_le l2 B.size)
      have D1 := fun (gx : Ext wr) => gx.cell ((B.cell (p := ⟨b1, o1 + k * 3 + 1, none⟩) l1).trans q1) (Nat.lt_of_lt_of_le l1 B.size)
      have E1 := fun (gx : Ext wr) => gx.cell ((B.cell (p := ⟨b2, o2 + k * 3 + 1, none⟩) l2).trans r1) (Nat.lt_of_lt_of_le l2 B.size)
      have D2 := fun (gx : Ext wr) => gx.cell ((B.cell (p := ⟨b1, o1 + k * 3 + 2, none⟩) l1).trans q2) (Nat.lt_of_lt_of_le l1 B.size)
      have E2 := fun (gx : Ext wr) => gx.cell ((B.cell (p := ⟨b2, o2 + k * 3 + 2, none⟩) l2).trans r2) (Nat.lt_of_lt_of_le l2 B.size)
      clear hc1 hc2 hx
      go_upto_region 6 with fail
      refine wp_region_ext (by kernel_rfl) (by kernel_rfl) ?_; (repeat (go_big_quiet_step (fail))); refine wpQuiet_nil ?_; rintro _ ⟨gq, rfl⟩
      clear D0 E0 q0 r0 D1 E1 q1 r1 D2 E2 q2 r2
      have B2 := below_then B gq.below (Nat.le_refl _)
      generalize gq.world = w2 at B2 ⊢
      go_wp2_with fail
      go_roundw
      case rel => exact ⟨k + 1, by omega, by go_num, B2⟩
      case measure => simp only [intOf]; omega
    · obtain rfl : k = n := by omega
      have j1 : ¬ (k : Int) < (k : Int) := by omega
      go_wp2_with fail
      go_ret
      exact ⟨rfl, B⟩
theorem rlin_eql (x0 y0 : Int) (x1 y1 : Int) (x2 y2 : Int) (x3 y3 : Int) (x4 y4 : Int) (x5 y5 : Int) (x6 y6 : Int) (x7 y7 : Int) (w : World) : (binOp .eql 71 (.agg #[.int .i64 x0, .int .i64 x1, .int .i64 x2, .int .i64 x3, .int .i64 x4, .int .i64 x5, .int .i64 x6, .int .i64 x7]) (.agg #[.int .i64 y0, .int .i64 y1, .int .i64 y2, .int .i64 y3, .int .i64 y4, .int .i64 y5, .int .i64 y6, .int .i64 y7])).run Try.prog w = .ok (.bool ((x0 == y0) && (x1 == y1) && (x2 == y2) && (x3 == y3) && (x4 == y4) && (x5 == y5) && (x6 == y6) && (x7 == y7))) w := by
  have hS : Try.prog.underlying 71 = some (.struct (Try.prog.fieldsOf 71)) := by kernel_rfl
  have hp : Try.prog.stoodInHeld 71 = false := by kernel_rfl
  have u3 := Try.underlying3
  have a3 := Try.isAgg3
  have z3 := Try.sizeOf3
  rw [run_eql_struct, show (10000 : Nat) = 9999 + 1 from rfl, run_equalIn_agg w 9999 71 _ _ hS hp]
  simp only [Program.fieldsOf, Try.underlying71]
  go_simp
  by_cases h0 : x0 = y0
  rotate_left
  · simp [h0]
  subst h0
  by_cases h1 : x1 = y1
  rotate_left
  · simp [h1]
  subst h1
  by_cases h2 : x2 = y2
  rotate_left
  · simp [h2]
  subst h2
  by_cases h3 : x3 = y3
  rotate_left
  · simp [h3]
  subst h3
  by_cases h4 : x4 = y4
  rotate_left
  · simp [h4]
  subst h4
  by_cases h5 : x5 = y5
  rotate_left
  · simp [h5]
  subst h5
  by_cases h6 : x6 = y6
  rotate_left
  · simp [h6]
  subst h6
  by_cases h7 : x7 = y7
  rotate_left
  · simp [h7]
  subst h7
  (try simp [])
theorem rlin_neq (x0 y0 : Int) (x1 y1 : Int) (x2 y2 : Int) (x3 y3 : Int) (x4 y4 : Int) (x5 y5 : Int) (x6 y6 : Int) (x7 y7 : Int) (w : World) : (binOp .neq 71 (.agg #[.int .i64 x0, .int .i64 x1, .int .i64 x2, .int .i64 x3, .int .i64 x4, .int .i64 x5, .int .i64 x6, .int .i64 x7]) (.agg #[.int .i64 y0, .int .i64 y1, .int .i64 y2, .int .i64 y3, .int .i64 y4, .int .i64 y5, .int .i64 y6, .int .i64 y7])).run Try.prog w = .ok (.bool (!((x0 == y0) && (x1 == y1) && (x2 == y2) && (x3 == y3) && (x4 == y4) && (x5 == y5) && (x6 == y6) && (x7 == y7)))) w := by
  have hS : Try.prog.underlying 71 = some (.struct (Try.prog.fieldsOf 71)) := by kernel_rfl
  have hp : Try.prog.stoodInHeld 71 = false := by kernel_rfl
  have u3 := Try.underlying3
  have a3 := Try.isAgg3
  have z3 := Try.sizeOf3
  rw [run_neq_struct, show (10000 : Nat) = 9999 + 1 from rfl, run_equalIn_agg w 9999 71 _ _ hS hp]
  simp only [Program.fieldsOf, Try.underlying71]
  go_simp
  by_cases h0 : x0 = y0
  rotate_left
  · simp [h0]
  subst h0
  by_cases h1 : x1 = y1
  rotate_left
  · simp [h1]
  subst h1
  by_cases h2 : x2 = y2
  rotate_left
  · simp [h2]
  subst h2
  by_cases h3 : x3 = y3
  rotate_left
  · simp [h3]
  subst h3
  by_cases h4 : x4 = y4
  rotate_left
  · simp [h4]
  subst h4
  by_cases h5 : x5 = y5
  rotate_left
  · simp [h5]
  subst h5
  by_cases h6 : x6 = y6
  rotate_left
  · simp [h6]
  subst h6
  by_cases h7 : x7 = y7
  rotate_left
  · simp [h7]
  subst h7
  (try simp [])
theorem rlin_guard (op : BinOp) (x y : Operand) (xs ys : Array Value) (w : World) : (eqGuard op 71 x y (.agg xs) (.agg ys)).run Try.prog w = .ok () w := run_eqGuard_agg w op 71 x y xs ys (by kernel_rfl)

theorem rlin_neq1 (x0 : Int) (x1 : Int) (x2 : Int) (x3 : Int) (x4 : Int) (x5 : Int) (x6 : Int) (x7 : Int) (w : World) : (binOp .neq 71 (.agg #[.int .i64 x0, .int .i64 x1, .int .i64 x2, .int .i64 x3, .int .i64 x4, .int .i64 x5, .int .i64 x6, .int .i64 x7]) (.agg #[.int .i64 x0, .int .i64 x1, .int .i64 x2, .int .i64 x3, .int .i64 x4, .int .i64 x5, .int .i64 x6, .int .i64 x7])).run Try.prog w = .ok (.bool false) w := by
  rw [rlin_neq]; simp
attribute [local go_sem] rlin_neq1 rlin_guard
set_option maxRecDepth 8000 in
set_option maxHeartbeats 4000000 in
theorem law11_sameLines (a b : Option Addr) (n ca cb : Nat) (l : List LnR) (w : World) (A : RnAt w a n ca l) (B0 : RnAt w b n cb l) (hn : n ≤ 100000) :
    Calls Try.prog 17 #[.slice a n ca, .slice b n cb] w fun e w' => e = .returned (.bool true) ∧ Below w.heap.size w w' := by
  have j0 : ((n : Int) != (n : Int)) = false := by simp
  have SB : SliceOf w b n cb 8 (fun i => [.int .i64 (l.getD i zLn).p, .int .i64 (l.getD i zLn).f, .int .i64 (l.getD i zLn).l, .int .i64 (l.getD i zLn).h, .int .i64 (l.getD i zLn).j, .int .i64 (l.getD i zLn).b, .int .i64 (l.getD i zLn).t, .int .i64 (l.getD i zLn).d]) := B0.row
  have SA : SliceOf w a n ca 8 (fun i => [.int .i64 (l.getD i zLn).p, .int .i64 (l.getD i zLn).f, .int .i64 (l.getD i zLn).l, .int .i64 (l.getD i zLn).h, .int .i64 (l.getD i zLn).j, .int .i64 (l.getD i zLn).b, .int .i64 (l.getD i zLn).t, .int .i64 (l.getD i zLn).d]) := A.row
  go_enter Try.func17, Try.ntmps17
  go_wp2_with fail
  go_loopw [13] (fun x13 wr => ∃ k : Nat, k ≤ n ∧ x13 = .int .i64 k ∧ Below w.heap.size w wr) (fun x13 _ => n - (intOf x13).toNat)
  case atStart => exact ⟨0, by omega, rfl, Below.refl _ _⟩
  case round =>
    obtain ⟨k, hk, rfl, B⟩ := hrel
    by_cases hlt : k < n
    · obtain ⟨b1, o1, rfl, l1, hc1⟩ := SA.at8x (by omega)
      obtain ⟨b2, o2, rfl, l2, hc2⟩ := SB.at8x (by omega)
      have p0 : (0 : Int) ≤ (k : Int) := by omega
      have p1 : (k : Int) < (n : Int) := by omega
      have wk : IntKind.i64.wrap ((k : Int) + 1) = ((k + 1 : Nat) : Int) := by rw [IntWalk.i64_in _ (by omega)]; omega
      obtain ⟨x, hx⟩ : ∃ x, l.getD k zLn = x := ⟨_, rfl⟩
      have hd := hc1 k hlt
      have he := hc2 k hlt
      rw [hx] at hd he
      obtain ⟨y0, y1, y2, y3, y4, y5, y6, y7⟩ := x
      simp only at hd he
      obtain ⟨q0, q1, q2, q3, q4, q5, q6, q7⟩ := hd
      obtain ⟨r0, r1, r2, r3, r4, r5, r6, r7⟩ := he
      have D0 := fun (gx : Ext wr) => gx.cell ((B.cell (p := ⟨b1, o1 + k * 8, none⟩) l1).trans q0) (Nat.lt_of_lt_of_le l1 B.size)
      have E0 := fun (gx : Ext wr) => gx.cell ((B.cell (p := ⟨b2, o2 + k * 8, none⟩) l2).trans r0) (Nat.lt_of_lt_of_le l2 B.size)
      have D1 := fun (gx : Ext wr) => gx.cell ((B.cell (p := ⟨b1, o1 + k * 8 + 1, none⟩) l1).trans q1) (Nat.lt_of_lt_of_le l1 B.size)
      have E1 := fun (gx : Ext wr) => gx.cell ((B.cell (p := ⟨b2, o2 + k * 8 + 1, none⟩) l2).trans r1) (Nat.lt_of_lt_of_le l2 B.size)
      have D2 := fun (gx : Ext wr) => gx.cell ((B.cell (p := ⟨b1, o1 + k * 8 + 2, none⟩) l1).trans q2) (Nat.lt_of_lt_of_le l1 B.size)
      have E2 := fun (gx : Ext wr) => gx.cell ((B.cell (p := ⟨b2, o2 + k * 8 + 2, none⟩) l2).trans r2) (Nat.lt_of_lt_of_le l2 B.size)
      have D3 := fun (gx : Ext wr) => gx.cell ((B.cell (p := ⟨b1, o1 + k * 8 + 3, none⟩) l1).trans q3) (Nat.lt_of_lt_of_le l1 B.size)
      have E3 := fun (gx : Ext wr) => gx.cell ((B.cell (p := ⟨b2, o2 + k * 8 + 3, none⟩) l2).trans r3) (Nat.lt_of_lt_of_le l2 B.size)
      have D4 := fun (gx : Ext wr) => gx.cell ((B.cell (p := ⟨b1, o1 + k * 8 + 4, none⟩) l1).trans q4) (Nat.lt_of_lt_of_le l1 B.size)
      have E4 := fun (gx : Ext wr) => gx.cell ((B.cell (p := ⟨b2, o2 + k * 8 + 4, none⟩) l2).trans r4) (Nat.lt_of_lt_of_le l2 B.size)
      have D5 := fun (gx : Ext wr) => gx.cell ((B.cell (p := ⟨b1, o1 + k * 8 + 5, none⟩) l1).trans q5) (Nat.lt_of_lt_of_le l1 B.size)
      have E5 := fun (gx : Ext wr) => gx.cell ((B.cell (p := ⟨b2, o2 + k * 8 + 5, none⟩) l2).trans r5) (Nat.lt_of_lt_of_le l2 B.size)
      have D6 := fun (gx : Ext wr) => gx.cell ((B.cell (p := ⟨b1, o1 + k * 8 + 6, none⟩) l1).trans q6) (Nat.lt_of_lt_of_le l1 B.size)
      have E6 := fun (gx : Ext wr) => gx.cell ((B.cell (p := ⟨b2, o2 + k * 8 + 6, none⟩) l2).trans r6) (Nat.lt_of_lt_of_le l2 B.size)
      have D7 := fun (gx : Ext wr) => gx.cell ((B.cell (p := ⟨b1, o1 + k * 8 + 7, none⟩) l1).trans q7) (Nat.lt_of_lt_of_le l1 B.size)
      have E7 := fun (gx : Ext wr) => gx.cell ((B.cell (p := ⟨b2, o2 + k * 8 + 7, none⟩) l2).trans r7) (Nat.lt_of_lt_of_le l2 B.size)
      clear hc1 hc2 hx
      go_upto_region 6 with fail
      refine wp_region_ext (by kernel_rfl) (by kernel_rfl) ?_; (repeat (go_big_quiet_step (fail))); refine wpQuiet_nil ?_; rintro _ ⟨gq, rfl⟩
      clear D0 E0 q0 r0 D1 E1 q1 r1 D2 E2 q2 r2 D3 E3 q3 r3 D4 E4 q4 r4 D5 E5 q5 r5 D6 E6 q6 r6 D7 E7 q7 r7
      have B2 := below_then B gq.below (Nat.le_refl _)
      generalize gq.world = w2 at B2 ⊢
      go_wp2_with fail
      go_roundw
      case rel => exact ⟨k + 1, by omega, by go_num, B2⟩
      case measure => simp only [intOf]; omega
    · obtain rfl : k = n := by omega
      have j1 : ¬ (k : Int) < (k : Int) := by omega
      go_wp2_with fail
      go_ret
      exact ⟨rfl, B⟩
def upsA (l : List AdR) : List Int := (l.filter AdR.u).map AdR.p
theorem upsA_snoc (l : List AdR) (k : Nat) (x : AdR) (h : l[k]? = some x) : upsA (l.take (k + 1)) = upsA (l.take k) ++ if x.u then [x.p] else [] := by
  unfold upsA
  rw [List.take_add_one, h, List.filter_append, List.map_append]
  congr 1
  show ([x].filter AdR.u).map AdR.p = _
  cases e : x.u <;> simp [List.filter, e]
set_option maxRecDepth 8000 in
set_option maxHeartbeats 4000000 in
theorem sub_Up (src : Int) (a : Option Addr) (n c : Nat) (l : List AdR) (w : World) (A : AdAt w a n c l) (hn : n ≤ 1000) :
    Calls Try.prog 10 #[.agg #[.int .u32 src, .slice a n c]] w fun e w' => ∃ v, e = .returned v ∧ w'.ownsRow w.heap.size 3 1 v (upsA l).length (cellsK .i64 (upsA l)) ∧ Below w.heap.size w w' := by
  obtain ⟨i0, hi0, hz0, hz1, hz2⟩ := info_parts (show (Try.prog.info? 3).map (fun i => (i.zero, i.size, i.bytes)) = some (some (.int .i64 0), 1, 8) by kernel_rfl)
  have HL := Lib.hid A.len
  have SA : SliceOf w a n c 3 (fun i => [.int .i64 (l.getD i zAd).p, .bool (l.getD i zAd).u, .int .i64 (l.getD i zAd).r]) := A.row
  have K1 := Blk.new w 27 #[.int .u32 src, .slice a n c]
  have B1 : Below w.heap.size w (w.alloc (.cells #[.int .u32 src, .slice a n c] 27)) := (Below.refl _ w).alloc (Nat.le_refl _) _
  go_enter Try.func10, Try.ntmps10
  go_upto_region 1 with fail
  generalize w.alloc (.cells #[.int .u32 src, .slice a n c] 27) = w1 at *
  have k1 := K1.cell
  simp at k1
  go_wp2_with fail
  go_loopw [3, 9] (fun x3 x9 wr => ∃ (k m : Nat), k ≤ n ∧ x9 = .int .i64 k ∧ (upsA (l.take k)).length = m ∧ m ≤ k ∧ wr.ownsRow w.heap.size 3 1 x3 m (cellsK .i64 (upsA (l.take k))) ∧ Below w.heap.size w wr) (fun _ x9 _ => n - (intOf x9).toNat)
  case atStart => exact ⟨0, 0, by omega, rfl, rfl, by omega, ⟨rfl, .inl ⟨rfl, rfl⟩⟩, B1⟩
  case round =>
    obtain ⟨k, m, hk, rfl, hm, hmk, own, B⟩ := hrel
    have HM := Lib.hid hm
    clear hm
    by_cases hlt : k < n
    · obtain ⟨b1, o1, rfl, l1, hc1⟩ := SA.at3y (by omega)
      have hkl : k < l.length := by have := HL.out; omega
      obtain ⟨x, hx⟩ : ∃ x, l[k]? = some x := ⟨_, List.getElem?_eq_getElem hkl⟩
      have hd := hc1 k hlt
      rw [getD_of hx] at hd
      have HUS := Lib.hid (upsA_snoc l k x hx)
      obtain ⟨p, uf, r⟩ := x
      simp only at hd
      obtain ⟨d0, d1, d2⟩ := hd
      have D0 := (B.cell (p := ⟨b1, o1 + k * 3, none⟩) l1).trans d0
      have D1 := (B.cell (p := ⟨b1, o1 + k * 3 + 1, none⟩) l1).trans d1
      have D2 := (B.cell (p := ⟨b1, o1 + k * 3 + 2, none⟩) l1).trans d2
      have p0 : (0 : Int) ≤ (k : Int) := by omega
      have p1 : (k : Int) < (n : Int) := by omega
      have wk : IntKind.i64.wrap ((k : Int) + 1) = ((k + 1 : Nat) : Int) := by rw [IntWalk.i64_in _ (by omega)]; omega
      have Ka := Blk.new wr 31 #[.int .i64 p, .bool uf, .int .i64 r]
      have Ba : Below wr.heap.size wr (wr.alloc (.cells #[.int .i64 p, .bool uf, .int .i64 r] 31)) := (Below.refl _ wr).alloc (Nat.le_refl _) _
      have own' := own_lasts own Ba
      have BW := below_then B Ba (Nat.le_refl _)
      clear hx hc1 d0 d1 d2 own hkl
      go_upto_region 5 with fail
      clear D0 D1 D2
      have sz := BW.size
      generalize wr.alloc (.cells #[.int .i64 p, .bool uf, .int .i64 r] 31) = wa at *
      have ca := Ka.cell
      simp at ca
      cases uf with
      | true =>
        have hus := HUS.out
        simp only [if_true] at hus
        have HUS2 := Lib.hid hus
        clear hus
        go_wp2_with (at_builtin; refine wpList_append_lies _ rfl _ _ 28 rfl w.heap.size 3 i0 (.int .i64 0) 1 8 Try.underlying28 hi0 hz0 hz1 hz2 rfl (by decide) _ _ _ rfl (own'.alloc _) ⟨wa.heap.size, 0, none⟩ 1 1 [.int .i64 p] rfl rfl (cell_one_new _ _ _) (by simp [Value.oneCell']) (by omega) (by rw [maxLen_eq]; omega) (by omega) (by simp; omega) _ rfl ?_; intro g2 cap w6 own6 hgrow hat hlt6)
        have hB6 : Below w.heap.size w w6 := (BW.alloc sz _).grown hgrow (by simp; omega) (fun j hj => (own'.lt j hj).1)
        go_roundw
        case rel => exact ⟨k + 1, m + 1, by omega, by go_num, by rw [HUS2.out, List.length_append, HM.out]; rfl, by omega, by rw [HUS2.out, cellsK_snoc]; exact own6, hB6⟩
        case measure => simp only [intOf]; omega
      | false =>
        have hus := HUS.out
        simp only [Bool.false_eq_true, if_false, List.append_nil] at hus
        have HUS2 := Lib.hid hus
        clear hus
        go_wp2_with fail
        go_roundw
        case rel => exact ⟨k + 1, m, by omega, by go_num, by rw [HUS2.out]; exact HM.out, by omega, by rw [HUS2.out]; exact own', BW⟩
        case measure => simp only [intOf]; omega
    · obtain rfl : k = n := by omega
      have j1 : ¬ (k : Int) < (k : Int) := by omega
      have hall : l.take k = l := by have := HL.out; rw [← this]; exact List.take_length
      have hm := HM.out
      rw [hall] at own hm
      obtain ⟨a6, c6, rfl⟩ := own_any own
      have own2 := Lib.hid own
      have HM2 := Lib.hid hm
      clear hall hm own
      go_wp2_with fail
      go_ret
      exact ⟨_, rfl, by rw [HM2.out]; exact own2.out, B⟩
set_option maxRecDepth 8000 in
set_option maxHeartbeats 8000000 in
theorem law11_lines (a : Option Addr) (n c : Nat) (l : List LnR) (w : World) (A : LnAt w a n c l) (hn : n ≤ 1000) (hok : LnOk l) :
    Calls Try.prog 18 #[.slice a n c] w fun e w' => ∃ v, e = .returned v ∧ w'.ownsRow w.heap.size 71 8 v n (rowG cellsR l) ∧ Below w.heap.size w w' := by
  obtain ⟨iq, hq0, hq1, hq2, hq3⟩ := info_rln
  have HL := Lib.hid A.len
  have HOK := Lib.hid hok
  have SA : SliceOf w a n c 8 (fun i => [.int .i64 (l.getD i zLn).p, .int .i64 (l.getD i zLn).f, .int .i64 (l.getD i zLn).l, .int .u32 (l.getD i zLn).h, .int .u32 (l.getD i zLn).j, .int .u32 (l.getD i zLn).b, .int .u32 (l.getD i zLn).t, .int .u32 (l.getD i zLn).d]) := A.row
  clear hok
  go_enter Try.func18, Try.ntmps18
  go_wp2_with fail
  go_loopw [3, 8] (fun x3 x8 wr => ∃ k : Nat, k ≤ n ∧ x8 = .int .i64 k ∧ wr.ownsRow w.heap.size 71 8 x3 k (rowG cellsR (l.take k)) ∧ Below w.heap.size w wr) (fun _ x8 _ => n - (intOf x8).toNat)
  case atStart => exact ⟨0, by omega, rfl, ⟨rfl, .inl ⟨rfl, rfl⟩⟩, Below.refl _ _⟩
  case round =>
    obtain ⟨k, hk, rfl, own, B⟩ := hrel
    by_cases hlt : k < n
    · obtain ⟨b1, o1, rfl, l1, hc1⟩ := SA.at8x (by omega)
      have hkl : k < l.length := by have := HL.out; omega
      obtain ⟨x, hx⟩ : ∃ x, l[k]? = some x := ⟨_, List.getElem?_eq_getElem hkl⟩
      have hd := hc1 k hlt
      rw [getD_of hx] at hd
      have hxo := HOK.out x (List.mem_of_getElem? hx)
      have HUS := Lib.hid (show rowG cellsR (l.take (k + 1)) = rowG cellsR (l.take k) ++ cellsR x by rw [List.take_add_one, hx, rowG_append]; simp [rowG])
      obtain ⟨y0, y1, y2, y3, y4, y5, y6, y7⟩ := x
      simp only at hd hxo
      obtain ⟨q0, q1, q2, q3, q4, q5, q6, q7⟩ := hd
      obtain ⟨⟨u30, u31⟩, ⟨u40, u41⟩, ⟨u50, u51⟩, ⟨u60, u61⟩, ⟨u70, u71⟩⟩ := hxo
      have D0 := (B.cell (p := ⟨b1, o1 + k * 8, none⟩) l1).trans q0
      have D1 := (B.cell (p := ⟨b1, o1 + k * 8 + 1, none⟩) l1).trans q1
      have D2 := (B.cell (p := ⟨b1, o1 + k * 8 + 2, none⟩) l1).trans q2
      have D3 := (B.cell (p := ⟨b1, o1 + k * 8 + 3, none⟩) l1).trans q3
      have D4 := (B.cell (p := ⟨b1, o1 + k * 8 + 4, none⟩) l1).trans q4
      have D5 := (B.cell (p := ⟨b1, o1 + k * 8 + 5, none⟩) l1).trans q5
      have D6 := (B.cell (p := ⟨b1, o1 + k * 8 + 6, none⟩) l1).trans q6
      have D7 := (B.cell (p := ⟨b1, o1 + k * 8 + 7, none⟩) l1).trans q7
      have wy3 : IntKind.i64.wrap y3 = y3 := IntWalk.i64_in _ (by omega)
      have wy4 : IntKind.i64.wrap y4 = y4 := IntWalk.i64_in _ (by omega)
      have wy5 : IntKind.i64.wrap y5 = y5 := IntWalk.i64_in _ (by omega)
      have wy6 : IntKind.i64.wrap y6 = y6 := IntWalk.i64_in _ (by omega)
      have wy7 : IntKind.i64.wrap y7 = y7 := IntWalk.i64_in _ (by omega)
      have p0 : (0 : Int) ≤ (k : Int) := by omega
      have p1 : (k : Int) < (n : Int) := by omega
      have wk : IntKind.i64.wrap ((k : Int) + 1) = ((k + 1 : Nat) : Int) := by rw [IntWalk.i64_in _ (by omega)]; omega
      have Ka := Blk.new wr 67 #[.int .i64 y0, .int .i64 y1, .int .i64 y2, .int .u32 y3, .int .u32 y4, .int .u32 y5, .int .u32 y6, .int .u32 y7]
      have Ba : Below wr.heap.size wr (wr.alloc (.cells #[.int .i64 y0, .int .i64 y1, .int .i64 y2, .int .u32 y3, .int .u32 y4, .int .u32 y5, .int .u32 y6, .int .u32 y7] 67)) := (Below.refl _ wr).alloc (Nat.le_refl _) _
      have own' := own_lasts own Ba
      have BW := below_then B Ba (Nat.le_refl _)
      clear hx hc1 own hkl q0 q1 q2 q3 q4 q5 q6 q7 u30 u31 u40 u41 u50 u51 u60 u61 u70 u71
      go_upto_region 5 with fail
      clear D0 D1 D2 D3 D4 D5 D6 D7
      have sz := BW.size
      generalize wr.alloc (.cells #[.int .i64 y0, .int .i64 y1, .int .i64 y2, .int .u32 y3, .int .u32 y4, .int .u32 y5, .int .u32 y6, .int .u32 y7] 67) = wa at *
      have ca := Ka.cell
      simp at ca
      have ownb := own_at own' (w' := wa.alloc (.cells #[.int .i64 y0, .int .i64 y1, .int .i64 y2, .int .i64 y3, .int .i64 y4, .int .i64 y5, .int .i64 y6, .int .i64 y7] 71)) (fun j hj => Below.heap_alloc _ _ _ (own'.lt j hj).2)
      have hnew := World.news_of_block (Blk.new wa 71 #[.int .i64 y0, .int .i64 y1, .int .i64 y2, .int .i64 y3, .int .i64 y4, .int .i64 y5, .int .i64 y6, .int .i64 y7])
      go_wp2_with (at_builtin; refine wpList_append_lies _ rfl _ _ 50 rfl w.heap.size 71 iq (.agg zRn) 8 64 Try.underlying50 hq0 hq1 hq2 hq3 rfl (by decide) _ _ _ rfl ownb ⟨wa.heap.size, 0, none⟩ 1 1 [.int .i64 y0, .int .i64 y1, .int .i64 y2, .int .i64 y3, .int .i64 y4, .int .i64 y5, .int .i64 y6, .int .i64 y7] rfl rfl hnew (by simp [Value.oneCell']) (by omega) (by rw [maxLen_eq]; omega) (by omega) (by simp; omega) _ rfl ?_; intro g2 cap w8 own8 hgrow hat hlt8)
      have B8 : Below w.heap.size w w8 := (BW.alloc sz _).grown hgrow (by simp; omega) (fun j hj => (ownb.lt j hj).1)
      go_roundw
      case rel => exact ⟨k + 1, by omega, by go_num, by rw [HUS.out]; exact own8, B8⟩
      case measure => simp only [intOf]; omega
    · obtain rfl : k = n := by omega
      have j1 : ¬ (k : Int) < (k : Int) := by omega
      have hall : l.take k = l := by have := HL.out; rw [← this]; exact List.take_length
      rw [hall] at own
      obtain ⟨a6, c6, rfl⟩ := own_any own
      go_wp2_with fail
      go_ret
      exact ⟨_, rfl, own, B⟩
end Go.Proofs.Ytliilcadlijnoaa
