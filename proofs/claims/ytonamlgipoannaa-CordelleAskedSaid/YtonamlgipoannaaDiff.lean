/- Package serial and its reference: how far one number of 16 bits is behind another. No condition but the numbers' bounds. -/
import Derived.Test.YtonamlgipoannaaInts
namespace Go.Proofs.Ytonamlgipoannaa
open Go.RowKit

/-- How far b is behind a, modulo 65536. -/
def diffI (a b : Int) : Int := (b - a + 32768) % 65536 - 32768
theorem diff_bd (a b : Int) : -32768 ≤ diffI a b ∧ diffI a b ≤ 32767 := by unfold diffI; omega
theorem diff_walk (a b : Int) : wrap64 (IntKind.i16.wrap (IntKind.u16.wrap (b - a))) = diffI a b := by
  unfold wrap64 diffI
  simp [IntKind.wrap, IntKind.bits, IntKind.signed]
  split <;> omega

set_option maxHeartbeats 400000 in
theorem serial_Diff (a b r : Int) (h : diffI a b = r) (w : World) :
    Calls Try.prog 77 #[.int .u16 a, .int .u16 b] w fun e w' => e = .returned (.int .i64 r) ∧ w = w' := by
  subst h
  go_enter Try.func77, Try.ntmps77
  go_wp2
  go_ret
  exact ⟨ret_int (diff_walk a b), rfl⟩

end Go.Proofs.Ytonamlgipoannaa
