/- Package serial and its reference, walked: how far one number of 16 bits is behind another, and the whole number that is meant. No condition but the numbers' bounds. -/
import Derived.Test.YtfoefkoneekolaaDoorKit
namespace Go.Proofs.YtfoefkoneekolaaDoor
open Go.RowKit

/-- How far b is behind a, modulo 65536. -/
def diffI (a b : Int) : Int := (b - a + 32768) % 65536 - 32768
theorem diff_bd (a b : Int) : -32768 ≤ diffI a b ∧ diffI a b ≤ 32767 := by unfold diffI; omega
/-- The whole number that is meant. -/
def extI (l n : Int) : Int := clipI l (-4611686018427387904) 4611686018427387904 + diffI (clipI l (-4611686018427387904) 4611686018427387904 % 65536) n
theorem ext_bd (l n : Int) : -4611686018427420672 ≤ extI l n ∧ extI l n ≤ 4611686018427420671 := by
  have h1 := clip_bd l (-4611686018427387904) 4611686018427387904 (by omega)
  have h2 := diff_bd (clipI l (-4611686018427387904) 4611686018427387904 % 65536) n
  unfold extI; omega
theorem ext_near (l n : Int) (h1 : -4611686018427387904 ≤ l) (h2 : l ≤ 4611686018427387904) : extI l n = l + diffI (l % 65536) n := by
  unfold extI
  have : clipI l (-4611686018427387904) 4611686018427387904 = l := by unfold clipI; omega
  rw [this]

theorem diff_walk (a b : Int) : wrap64 (IntKind.i16.wrap (IntKind.u16.wrap (b - a))) = diffI a b := by
  unfold wrap64 diffI
  simp [IntKind.wrap, IntKind.bits, IntKind.signed]
  split <;> omega

end Go.Proofs.YtfoefkoneekolaaDoor
