/- Package serial and its reference: how far one number of 16 bits is behind another. No condition but the numbers' bounds. -/
import Derived.Test.YtmmoejnjajmnpaaInts
namespace Go.Proofs.Ytmmoejnjajmnpaa
open Go.RowKit

/-- How far b is behind a, modulo 65536. -/
def diffI (a b : Int) : Int := (b - a + 32768) % 65536 - 32768
theorem diff_bd (a b : Int) : -32768 ≤ diffI a b ∧ diffI a b ≤ 32767 := by unfold diffI; omega
theorem diff_walk (a b : Int) : wrap64 (IntKind.i16.wrap (IntKind.u16.wrap (b - a))) = diffI a b := by
  unfold wrap64 diffI
  simp [IntKind.wrap, IntKind.bits, IntKind.signed]
  split <;> omega

set_option maxHeartbeats 400000 in
theorem serial_Diff (a b r : Int) (h : diffI a b = r) (w : World) :
    Calls Try.prog 38 #[.int .u16 a, .int .u16 b] w fun e w' => e = .returned (.int .i64 r) ∧ w = w' := by
  subst h
  go_enter Try.func38, Try.ntmps38
  go_wp2
  go_ret
  exact ⟨ret_int (diff_walk a b), rfl⟩

set_option maxHeartbeats 400000 in
theorem ref01_Diff (a b r : Int) (ha : 0 ≤ a) (ha2 : a ≤ 65535) (hb : 0 ≤ b) (hb2 : b ≤ 65535) (h : diffI a b = r) (w : World) :
    Calls Try.prog 28 #[.int .i64 a, .int .i64 b] w fun e w' => e = .returned (.int .i64 r) ∧ w = w' := by
  have hm : (b - a).tmod 65536 = b - a := by
    rcases Int.le_total 0 (b - a) with h0 | h0
    · rw [Int.tmod_eq_emod_of_nonneg h0]; omega
    · have : (b - a) = -(a - b) := by omega
      rw [this, Int.neg_tmod, Int.tmod_eq_emod_of_nonneg (by omega)]; omega
  have HR := Lib.hid h
  clear h
  by_cases h1 : b - a < 0
  · by_cases h2 : 32768 ≤ b - a + 65536
    · go_enter Try.func28, Try.ntmps28
      go_wp2
      go_ret
      exact ⟨ret_int (by rw [← HR.out]; unfold diffI; omega), rfl⟩
    · go_enter Try.func28, Try.ntmps28
      go_wp2
      go_ret
      exact ⟨ret_int (by rw [← HR.out]; unfold diffI; omega), rfl⟩
  · by_cases h2 : 32768 ≤ b - a
    · go_enter Try.func28, Try.ntmps28
      go_wp2
      go_ret
      exact ⟨ret_int (by rw [← HR.out]; unfold diffI; omega), rfl⟩
    · go_enter Try.func28, Try.ntmps28
      go_wp2
      go_ret
      exact ⟨ret_int (by rw [← HR.out]; unfold diffI; omega), rfl⟩

end Go.Proofs.Ytmmoejnjajmnpaa
