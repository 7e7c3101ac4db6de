/- The statements' Same and awake, the document's AdvertsPiece. No condition but how many. (Printed by gen_sub5.py.) -/
import Derived.Test.YtliilcadlijnoaaSub4
import Derived.Test.YtliilcadlijnoaaSub3A
import Derived.Test.YtliilcadlijnoaaSub3L
namespace Go.Proofs.Ytliilcadlijnoaa
open Go.RowKit BigFrame
attribute [local go_sem ↓] Go.wp_at_zero Go.wp_at_succ

set_option maxHeartbeats 2000000 in
theorem law01_SameYes (a b : Option Addr) (n ca cb : Nat) (f : Nat → Int) (w : World) (SA : SliceOf w a n ca 1 (fun i => [.int .i64 (f i)])) (SB : SliceOf w b n cb 1 (fun i => [.int .i64 (f i)])) (hn : n ≤ 100000) :
    Calls Try.prog 9 #[.slice a n ca, .slice b n cb] w fun e w' => e = .returned (.bool true) ∧ Below w.heap.size w w' := by
  have j0 : ((n : Int) != (n : Int)) = false := by simp
  go_enter Try.func9, Try.ntmps9
  go_wp2_with fail
  go_loopw [13] (fun x13 wr => ∃ k : Nat, k ≤ n ∧ x13 = .int .i64 k ∧ Below w.heap.size w wr) (fun x13 _ => n - (intOf x13).toNat)
  case atStart => exact ⟨0, by omega, rfl, Below.refl _ _⟩
  case round =>
    obtain ⟨k, hk, rfl, B⟩ := hrel
    by_cases hlt : k < n
    · obtain ⟨b1, o1, rfl, l1, hc1⟩ := SA.at1 (by omega)
      obtain ⟨b2, o2, rfl, l2, hc2⟩ := SB.at1 (by omega)
      have p0 : (0 : Int) ≤ (k : Int) := by omega
      have p1 : (k : Int) < (n : Int) := by omega
      have wk : IntKind.i64.wrap ((k : Int) + 1) = ((k + 1 : Nat) : Int) := by rw [IntWalk.i64_in _ (by omega)]; omega
      have d1 := fun (gx : Ext wr) => gx.cell ((B.cell (p := ⟨b1, o1 + k, none⟩) l1).trans (hc1 k hlt)) (Nat.lt_of_lt_of_le l1 B.size)
      have d2 := fun (gx : Ext wr) => gx.cell ((B.cell (p := ⟨b2, o2 + k, none⟩) l2).trans (hc2 k hlt)) (Nat.lt_of_lt_of_le l2 B.size)
      obtain ⟨x, hx⟩ : ∃ x, f k = x := ⟨_, rfl⟩
      rw [hx] at d1 d2
      have j1 : (x != x) = false := by simp
      clear hc1 hc2 hx
      go_upto_region 6 with fail
      refine wp_region_ext (by kernel_rfl) (by kernel_rfl) ?_; (repeat (go_big_quiet_step (fail))); refine wpQuiet_nil ?_; rintro _ ⟨gq, rfl⟩
      clear d1 d2
      have B2 := below_then B gq.below (Nat.le_refl _)
      generalize gq.world = w2 at B2 ⊢
      go_wp2_with fail
      go_roundw
      case rel => exact ⟨k + 1, by omega, by go_num, B2⟩
      case measure => simp only [intOf]; omega
    · obtain rfl : k = n := by omega
      have j1 : ¬ (k : Int) < (k : Int) := by omega
      go_wp2_with fail
      go_ret
      exact ⟨rfl, B⟩

theorem str_app2 (a b : List Int) : strOfNums a ++ strOfNums b = strOfNums (a ++ b) := by
  apply ByteArray.ext
  simp [strOfNums, ByteArray.data_append]
attribute [local go_sem] pcc_guard
def awB : ByteArray := ⟨#[0, 0, 0, 1, 2, 1, 0, 5]⟩
set_option maxRecDepth 8000 in
set_option maxHeartbeats 4000000 in
theorem law11_awake (w : World) :
    Calls Try.prog 6 #[] w fun e w' => e = .returned (.bool true) ∧ Below w.heap.size w w' := by
  have hp : pcV 2 (pieceA 1 [⟨2, true, 5⟩]) = .agg #[.int .i64 2, .int .i64 211, .string awB] := by rfl
  have Ka := Blk.new w 31 #[.int .i64 2, .bool true, .int .i64 5]
  have Ba : Below w.heap.size w (w.alloc (.cells #[.int .i64 2, .bool true, .int .i64 5] 31)) := (Below.refl _ w).alloc (Nat.le_refl _) _
  have own1 : (w.alloc (.cells #[.int .i64 2, .bool true, .int .i64 5] 31)).ownsRow w.heap.size 31 3 (.slice (some ⟨w.heap.size, 0, none⟩) 1 1) 1 (rowG cellsA [⟨2, true, 5⟩]) := ⟨rfl, .inr ⟨w.heap.size, 1, #[.int .i64 2, .bool true, .int .i64 5], rfl, Nat.le_refl _, Ka, Nat.le_refl _, by decide, rfl, rfl⟩⟩
  obtain ⟨_, _, e9, SA⟩ := AdAt.of_own own1 rfl
  injection e9 with e9 e8 e7
  subst e9 e7
  obtain ⟨w1, hw1⟩ : ∃ x, w.alloc (.cells #[.int .i64 2, .bool true, .int .i64 5] 31) = x := ⟨_, rfl⟩
  rw [hw1] at SA Ba Ka
  have Kb := Blk.new w1 27 #[.int .u32 1, .slice (some ⟨w.heap.size, 0, none⟩) 1 1]
  have Bb : Below w1.heap.size w1 (w1.alloc (.cells #[.int .u32 1, .slice (some ⟨w.heap.size, 0, none⟩) 1 1] 27)) := (Below.refl _ w1).alloc (Nat.le_refl _) _
  have SB := SA.below Bb
  have B2 := below_then Ba Bb (Nat.le_refl _)
  have HP := Lib.hid (fun W (q : AdAt W (some ⟨w.heap.size, 0, none⟩) 1 1 [⟨2, true, 5⟩]) => ad_Piece 1 (by decide) _ 1 1 _ W q (by decide))
  rw [hp] at HP
  have HT := Lib.hid (fun W => sub_ToA awB W (by decide) [0, 0, 0, 1, 2, 1, 0, 5] (by decide) 1 (by decide) [⟨2, true, 5⟩] (by rfl) true (by decide))
  simp only [if_true] at HT
  clear own1 SA Ba Ka
  go_enter Try.func6, Try.ntmps6
  go_upto_region 2 with fail
  generalize w1.alloc (.cells #[.int .u32 1, .slice (some ⟨w.heap.size, 0, none⟩) 1 1] 27) = w2 at *
  have kb := Kb.cell
  simp at kb
  have sw := B2.size
  go_wp2_with fail
  refine (HP.out w2 SB).mono ?_
  rintro e w3 ⟨rfl, B3⟩
  have Kc := Blk.new w3 33 #[.int .i64 2, .int .i64 211, .string awB]
  have Bc : Below w3.heap.size w3 (w3.alloc (.cells #[.int .i64 2, .int .i64 211, .string awB] 33)) := (Below.refl _ w3).alloc (Nat.le_refl _) _
  have B4 := below_then (below_then B2 B3 (Nat.le_refl _)) Bc (Nat.le_refl _)
  clear HP SB Kb kb B3 Bb
  go_upto_region 3 with fail
  generalize w3.alloc (.cells #[.int .i64 2, .int .i64 211, .string awB] 33) = w4 at *
  have kc := Kc.cell
  simp at kc
  go_wp2_with fail
  refine (HT.out w4).mono ?_
  rintro e w5 ⟨B5, a5, c5, rfl, S5⟩
  have K5 := Kc.below B5 Kc.lt
  have Kd := Blk.new w5 27 #[.int .u32 1, .slice a5 1 c5]
  have Bd : Below w5.heap.size w5 (w5.alloc (.cells #[.int .u32 1, .slice a5 1 c5] 27)) := (Below.refl _ w5).alloc (Nat.le_refl _) _
  have S6 := S5.below Bd
  have K6 := K5.below Bd K5.lt
  have B6 := below_then (below_then B4 B5 (Nat.le_refl _)) Bd (Nat.le_refl _)
  clear S5 K5 B5 kc Kc
  go_upto_region 4 with fail
  generalize w5.alloc (.cells #[.int .u32 1, .slice a5 1 c5] 27) = w6 at *
  have k6 := K6.cell
  have kd := Kd.cell
  simp at k6 kd
  have hne : ∀ W, (binOp .eql 33 (.agg #[.int .i64 2, .int .i64 211, .string awB]) (.agg #[.int .i64 2, .int .i64 211, .string awB])).run Try.prog W = .ok (.bool true) W := fun W => by rw [pcc_eql]; simp
  have hne2 : ∀ W, (binOp .eql 33 (.agg #[.int .i64 2, .int .i64 211, .string awB]) (.agg #[.int .i64 2, .int .i64 211, .string ⟨#[0, 0, 0, 1, 2, 1, 0, 5]⟩])).run Try.prog W = .ok (.bool true) W := hne
  have HUP := Lib.hid (sub_Up 1 a5 1 c5 _ w6 S6 (by decide))
  go_wp2_with fail
  refine HUP.out.mono ?_
  rintro e w7 ⟨v7, rfl, own7, B7⟩
  obtain ⟨a7, c7, rfl, S7⟩ := SliceOf.of_own own7 (fun _ => .int .i64 2) (fun i hi => by
    have hi1 : i < 1 := hi
    obtain rfl : i = 0 := by omega
    rfl)
  have Ke := Blk.new w7 3 #[.int .i64 2]
  have Be : Below w7.heap.size w7 (w7.alloc (.cells #[.int .i64 2] 3)) := (Below.refl _ w7).alloc (Nat.le_refl _) _
  have S8 := S7.below Be
  have T8 := SliceOf.of_blk (cs := [.int .i64 2]) (n := 1) Ke (fun _ => .int .i64 2) rfl (by omega) (fun i hi => match i, hi with
    | 0, _ => rfl)
  have B8 := below_then (below_then B6 B7 (Nat.le_refl _)) Be (Nat.le_refl _)
  clear HUP own7 S7 K6 k6 Kd kd
  go_wp2_with fail
  refine (law01_SameYes _ _ 1 _ _ (fun _ => 2) _ S8 T8 (by omega)).mono ?_
  rintro e w9 ⟨rfl, B9⟩
  have BE := below_then B8 B9 (Nat.le_refl _)
  go_wp2_with fail
  go_ret
  exact ⟨rfl, BE⟩
end Go.Proofs.Ytliilcadlijnoaa
