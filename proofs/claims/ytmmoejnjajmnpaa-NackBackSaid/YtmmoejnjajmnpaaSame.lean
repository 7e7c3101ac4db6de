/- The statements' Same at two rows that are alike. No condition but how many. -/
import Derived.Test.YtmmoejnjajmnpaaNack6
import Derived.Test.YtmmoejnjajmnpaaFree
namespace Go.Proofs.Ytmmoejnjajmnpaa
open Go.RowKit BigFrame
attribute [local go_sem ↓] Go.wp_at_zero Go.wp_at_succ

set_option maxHeartbeats 2000000 in
theorem law01_SameYes (a b : Option Addr) (n ca cb : Nat) (f : Nat → Int) (w : World) (SA : SliceOf w a n ca 1 (fun i => [.int .i64 (f i)])) (SB : SliceOf w b n cb 1 (fun i => [.int .i64 (f i)])) (hn : n ≤ 100000) :
    Calls Try.prog 13 #[.slice a n ca, .slice b n cb] w fun e w' => e = .returned (.bool true) ∧ Below w.heap.size w w' := by
  have j0 : ((n : Int) != (n : Int)) = false := by simp
  go_enter Try.func13, Try.ntmps13
  go_wp2_with fail
  go_loopw [13] (fun x13 wr => ∃ k : Nat, k ≤ n ∧ x13 = .int .i64 k ∧ Below w.heap.size w wr) (fun x13 _ => n - (intOf x13).toNat)
  case atStart => exact ⟨0, by omega, rfl, Below.refl _ _⟩
  case round =>
    obtain ⟨k, hk, rfl, B⟩ := hrel
    by_cases hlt : k < n
    · obtain ⟨b1, o1, rfl, l1, hc1⟩ := SA.at1 (by omega)
      obtain ⟨b2, o2, rfl, l2, hc2⟩ := SB.at1 (by omega)
      have p0 : (0 : Int) ≤ (k : Int) := by omega
      have p1 : (k : Int) < (n : Int) := by omega
      have wk : IntKind.i64.wrap ((k : Int) + 1) = ((k + 1 : Nat) : Int) := by rw [IntWalk.i64_in _ (by omega)]; omega
      have d1 := fun (gx : Ext wr) => gx.cell ((B.cell (p := ⟨b1, o1 + k, none⟩) l1).trans (hc1 k hlt)) (Nat.lt_of_lt_of_le l1 B.size)
      have d2 := fun (gx : Ext wr) => gx.cell ((B.cell (p := ⟨b2, o2 + k, none⟩) l2).trans (hc2 k hlt)) (Nat.lt_of_lt_of_le l2 B.size)
      obtain ⟨x, hx⟩ : ∃ x, f k = x := ⟨_, rfl⟩
      rw [hx] at d1 d2
      have j1 : (x != x) = false := by simp
      clear hc1 hc2 hx
      go_upto_region 6 with fail
      refine wp_region_ext (by kernel_rfl) (by kernel_rfl) ?_; (repeat (go_big_quiet_step (fail))); refine wpQuiet_nil ?_; rintro _ ⟨gq, rfl⟩
      clear d1 d2
      have B2 := below_then B gq.below (Nat.le_refl _)
      generalize gq.world = w2 at B2 ⊢
      go_wp2_with fail
      go_roundw
      case rel => exact ⟨k + 1, by omega, by go_num, B2⟩
      case measure => simp only [intOf]; omega
    · obtain rfl : k = n := by omega
      have j1 : ¬ (k : Int) < (k : Int) := by omega
      go_wp2_with fail
      go_ret
      exact ⟨rfl, B⟩
end Go.Proofs.Ytmmoejnjajmnpaa
