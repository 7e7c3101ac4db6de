/- Law 08: two told alike are the same. No condition but how many blocks. (Printed once.) -/
import Derived.Test.YtolgdcchnmbmnaaRep8
namespace Go.Proofs.Ytolgdcchnmbmnaa
open Go.RowKit BigFrame
attribute [local go_sem ↓] Go.wp_at_zero Go.wp_at_succ

theorem rb_eql (x0 y0 : Int) (x1 y1 : Int) (x2 y2 : Int) (x3 y3 : Int) (x4 y4 : Int) (x5 y5 : Int) (x6 y6 : Int) (w : World) : (binOp .eql 67 (.agg #[.int .i64 x0, .int .i64 x1, .int .i64 x2, .int .i64 x3, .int .i64 x4, .int .i64 x5, .int .i64 x6]) (.agg #[.int .i64 y0, .int .i64 y1, .int .i64 y2, .int .i64 y3, .int .i64 y4, .int .i64 y5, .int .i64 y6])).run Try.prog w = .ok (.bool ((x0 == y0) && (x1 == y1) && (x2 == y2) && (x3 == y3) && (x4 == y4) && (x5 == y5) && (x6 == y6))) w := by
  have hS : Try.prog.underlying 67 = some (.struct (Try.prog.fieldsOf 67)) := by kernel_rfl
  have hp : Try.prog.stoodInHeld 67 = false := by kernel_rfl
  have u3 := Try.underlying3
  have a3 := Try.isAgg3
  have z3 := Try.sizeOf3
  rw [run_eql_struct, show (10000 : Nat) = 9999 + 1 from rfl, run_equalIn_agg w 9999 67 _ _ hS hp]
  simp only [Program.fieldsOf, Try.underlying67]
  go_simp
  by_cases h0 : x0 = y0
  rotate_left
  · simp [h0]
  subst h0
  by_cases h1 : x1 = y1
  rotate_left
  · simp [h1]
  subst h1
  by_cases h2 : x2 = y2
  rotate_left
  · simp [h2]
  subst h2
  by_cases h3 : x3 = y3
  rotate_left
  · simp [h3]
  subst h3
  by_cases h4 : x4 = y4
  rotate_left
  · simp [h4]
  subst h4
  by_cases h5 : x5 = y5
  rotate_left
  · simp [h5]
  subst h5
  by_cases h6 : x6 = y6
  rotate_left
  · simp [h6]
  subst h6
  (try simp [])
theorem rb_neq (x0 y0 : Int) (x1 y1 : Int) (x2 y2 : Int) (x3 y3 : Int) (x4 y4 : Int) (x5 y5 : Int) (x6 y6 : Int) (w : World) : (binOp .neq 67 (.agg #[.int .i64 x0, .int .i64 x1, .int .i64 x2, .int .i64 x3, .int .i64 x4, .int .i64 x5, .int .i64 x6]) (.agg #[.int .i64 y0, .int .i64 y1, .int .i64 y2, .int .i64 y3, .int .i64 y4, .int .i64 y5, .int .i64 y6])).run Try.prog w = .ok (.bool (!((x0 == y0) && (x1 == y1) && (x2 == y2) && (x3 == y3) && (x4 == y4) && (x5 == y5) && (x6 == y6)))) w := by
  have hS : Try.prog.underlying 67 = some (.struct (Try.prog.fieldsOf 67)) := by kernel_rfl
  have hp : Try.prog.stoodInHeld 67 = false := by kernel_rfl
  have u3 := Try.underlying3
  have a3 := Try.isAgg3
  have z3 := Try.sizeOf3
  rw [run_neq_struct, show (10000 : Nat) = 9999 + 1 from rfl, run_equalIn_agg w 9999 67 _ _ hS hp]
  simp only [Program.fieldsOf, Try.underlying67]
  go_simp
  by_cases h0 : x0 = y0
  rotate_left
  · simp [h0]
  subst h0
  by_cases h1 : x1 = y1
  rotate_left
  · simp [h1]
  subst h1
  by_cases h2 : x2 = y2
  rotate_left
  · simp [h2]
  subst h2
  by_cases h3 : x3 = y3
  rotate_left
  · simp [h3]
  subst h3
  by_cases h4 : x4 = y4
  rotate_left
  · simp [h4]
  subst h4
  by_cases h5 : x5 = y5
  rotate_left
  · simp [h5]
  subst h5
  by_cases h6 : x6 = y6
  rotate_left
  · simp [h6]
  subst h6
  (try simp [])
theorem rb_guard (op : BinOp) (x y : Operand) (xs ys : Array Value) (w : World) : (eqGuard op 67 x y (.agg xs) (.agg ys)).run Try.prog w = .ok () w := run_eqGuard_agg w op 67 x y xs ys (by kernel_rfl)

theorem rb_neq1 (x0 x1 x2 x3 x4 x5 x6 : Int) (w : World) : (binOp .neq 67 (.agg #[.int .i64 x0, .int .i64 x1, .int .i64 x2, .int .i64 x3, .int .i64 x4, .int .i64 x5, .int .i64 x6]) (.agg #[.int .i64 x0, .int .i64 x1, .int .i64 x2, .int .i64 x3, .int .i64 x4, .int .i64 x5, .int .i64 x6])).run Try.prog w = .ok (.bool false) w := by
  rw [rb_neq]; simp
attribute [local go_sem] rb_neq1 rb_guard
def RdAt (W : World) (a : Option Addr) (n c : Nat) (l : List BkR) : Prop := SliceOf W a n c 7 (fun i => toldC (l.getD i zBk))
theorem RdAt.at_ {W : World} {a : Option Addr} {n c : Nat} {l : List BkR} (h : RdAt W a n c l) (hp : 0 < n) :
    ∃ g off, a = some ⟨g, off, none⟩ ∧ g < W.heap.size ∧ ∀ i, i < n → ∀ j v, (toldC (l.getD i zBk))[j]? = some v → W.cell? ⟨g, off + i * 7 + j, none⟩ = some v := by
  obtain ⟨g, off, e, hg, hc⟩ := h.2.2 hp
  exact ⟨g, off, e, hg, hc⟩
set_option maxRecDepth 8000 in
set_option maxHeartbeats 8000000 in
theorem law08_Same (s : Int) (y : Bool) (c t p b : Int) (a1 a2 : Option Addr) (n q1 q2 : Nat) (l : List BkR) (hn : n ≤ 1000) (w : World) (S1 : RdAt w a1 n q1 l) (S2 : RdAt w a2 n q2 l) :
    Calls Try.prog 10 #[.agg #[.int .i64 s, .bool y, .int .i64 c, .int .i64 t, .int .i64 p, .int .i64 b, .slice a1 n q1], .agg #[.int .i64 s, .bool y, .int .i64 c, .int .i64 t, .int .i64 p, .int .i64 b, .slice a2 n q2]] w fun e w' => e = .returned (.bool true) ∧ Below w.heap.size w w' := by
  obtain ⟨K1, K2, B2⟩ := two_newS w #[.int .i64 s, .bool y, .int .i64 c, .int .i64 t, .int .i64 p, .int .i64 b, .slice a1 n q1] #[.int .i64 s, .bool y, .int .i64 c, .int .i64 t, .int .i64 p, .int .i64 b, .slice a2 n q2] 43 43
  go_enter Try.func10, Try.ntmps10
  go_upto_region 1 with fail
  generalize (w.alloc (.cells #[.int .i64 s, .bool y, .int .i64 c, .int .i64 t, .int .i64 p, .int .i64 b, .slice a1 n q1] 43)).alloc (.cells #[.int .i64 s, .bool y, .int .i64 c, .int .i64 t, .int .i64 p, .int .i64 b, .slice a2 n q2] 43) = w2 at *
  have c1 := K1.cell
  have c2 := K2.cell
  simp at c1 c2
  go_wp2_with fail
  clear c1 c2
  go_loopw [58] (fun x wr => ∃ k : Nat, k ≤ n ∧ x = .int .i64 k ∧ Blk wr w.heap.size 43 #[.int .i64 s, .bool y, .int .i64 c, .int .i64 t, .int .i64 p, .int .i64 b, .slice a1 n q1] ∧ Blk wr (w.heap.size + 1) 43 #[.int .i64 s, .bool y, .int .i64 c, .int .i64 t, .int .i64 p, .int .i64 b, .slice a2 n q2] ∧ Below w.heap.size w wr) (fun x _ => n - (intOf x).toNat)
  case atStart => exact ⟨0, by omega, rfl, K1, K2, B2⟩
  case round =>
    clear K1 K2 B2
    obtain ⟨k, hk, rfl, K1, K2, B⟩ := hrel
    by_cases hlt : k < n
    · obtain ⟨g1, o1, rfl, hg1, hc1⟩ := S1.at_ (by omega)
      obtain ⟨g2, o2, rfl, hg2, hc2⟩ := S2.at_ (by omega)
      obtain ⟨x, hx⟩ : ∃ x, l.getD k zBk = x := ⟨_, rfl⟩
      have hd1 := hc1 k hlt
      have hd2 := hc2 k hlt
      rw [hx] at hd1 hd2
      obtain ⟨xs, xf, xl, xh, xj, xa, xd⟩ := x
      have e10 := (B.cell (p := ⟨g1, o1 + k * 7, none⟩) hg1).trans (hd1 0 _ rfl)
      have e11 := (B.cell (p := ⟨g1, o1 + k * 7 + 1, none⟩) hg1).trans (hd1 1 _ rfl)
      have e12 := (B.cell (p := ⟨g1, o1 + k * 7 + 2, none⟩) hg1).trans (hd1 2 _ rfl)
      have e13 := (B.cell (p := ⟨g1, o1 + k * 7 + 3, none⟩) hg1).trans (hd1 3 _ rfl)
      have e14 := (B.cell (p := ⟨g1, o1 + k * 7 + 4, none⟩) hg1).trans (hd1 4 _ rfl)
      have e15 := (B.cell (p := ⟨g1, o1 + k * 7 + 5, none⟩) hg1).trans (hd1 5 _ rfl)
      have e16 := (B.cell (p := ⟨g1, o1 + k * 7 + 6, none⟩) hg1).trans (hd1 6 _ rfl)
      have e20 := (B.cell (p := ⟨g2, o2 + k * 7, none⟩) hg2).trans (hd2 0 _ rfl)
      have e21 := (B.cell (p := ⟨g2, o2 + k * 7 + 1, none⟩) hg2).trans (hd2 1 _ rfl)
      have e22 := (B.cell (p := ⟨g2, o2 + k * 7 + 2, none⟩) hg2).trans (hd2 2 _ rfl)
      have e23 := (B.cell (p := ⟨g2, o2 + k * 7 + 3, none⟩) hg2).trans (hd2 3 _ rfl)
      have e24 := (B.cell (p := ⟨g2, o2 + k * 7 + 4, none⟩) hg2).trans (hd2 4 _ rfl)
      have e25 := (B.cell (p := ⟨g2, o2 + k * 7 + 5, none⟩) hg2).trans (hd2 5 _ rfl)
      have e26 := (B.cell (p := ⟨g2, o2 + k * 7 + 6, none⟩) hg2).trans (hd2 6 _ rfl)
      simp only at e10 e11 e12 e13 e14 e15 e16 e20 e21 e22 e23 e24 e25 e26
      have E10 := fun (gx : Ext wr) => gx.cell e10 (Nat.lt_of_lt_of_le hg1 B.size)
      have E11 := fun (gx : Ext wr) => gx.cell e11 (Nat.lt_of_lt_of_le hg1 B.size)
      have E12 := fun (gx : Ext wr) => gx.cell e12 (Nat.lt_of_lt_of_le hg1 B.size)
      have E13 := fun (gx : Ext wr) => gx.cell e13 (Nat.lt_of_lt_of_le hg1 B.size)
      have E14 := fun (gx : Ext wr) => gx.cell e14 (Nat.lt_of_lt_of_le hg1 B.size)
      have E15 := fun (gx : Ext wr) => gx.cell e15 (Nat.lt_of_lt_of_le hg1 B.size)
      have E16 := fun (gx : Ext wr) => gx.cell e16 (Nat.lt_of_lt_of_le hg1 B.size)
      have E20 := fun (gx : Ext wr) => gx.cell e20 (Nat.lt_of_lt_of_le hg2 B.size)
      have E21 := fun (gx : Ext wr) => gx.cell e21 (Nat.lt_of_lt_of_le hg2 B.size)
      have E22 := fun (gx : Ext wr) => gx.cell e22 (Nat.lt_of_lt_of_le hg2 B.size)
      have E23 := fun (gx : Ext wr) => gx.cell e23 (Nat.lt_of_lt_of_le hg2 B.size)
      have E24 := fun (gx : Ext wr) => gx.cell e24 (Nat.lt_of_lt_of_le hg2 B.size)
      have E25 := fun (gx : Ext wr) => gx.cell e25 (Nat.lt_of_lt_of_le hg2 B.size)
      have E26 := fun (gx : Ext wr) => gx.cell e26 (Nat.lt_of_lt_of_le hg2 B.size)
      have EK1 := fun (gx : Ext wr) => gx.cell (K1.cell 6) K1.lt
      have EK2 := fun (gx : Ext wr) => gx.cell (K2.cell 6) K2.lt
      simp at EK1 EK2
      have i0 : (0 : Int) ≤ (k : Int) := by omega
      have i1 : (k : Int) < (n : Int) := by omega
      clear hc1 hc2 hd1 hd2 hx e10 e11 e12 e13 e14 e15 e16 e20 e21 e22 e23 e24 e25 e26
      go_upto_region 6 with fail
      refine wp_region_ext (by kernel_rfl) (by kernel_rfl) ?_; (repeat (go_big_quiet_step (fail))); refine wpQuiet_nil ?_; rintro _ ⟨gq, rfl⟩
      have K1 := K1.below gq.below K1.lt
      have K2 := K2.below gq.below K2.lt
      have B := below_then B gq.below (Nat.le_refl _)
      clear E10 E11 E12 E13 E14 E15 E16 E20 E21 E22 E23 E24 E25 E26 EK1 EK2
      generalize gq.world = w8 at *
      go_wp2_with fail
      go_roundw
      case rel => exact ⟨k + 1, by omega, by go_num, K1, K2, B⟩
      case measure => simp only [intOf]; omega
    · obtain rfl : k = n := by omega
      go_wp2_with fail
      go_ret
      exact ⟨rfl, B⟩
end Go.Proofs.Ytolgdcchnmbmnaa
