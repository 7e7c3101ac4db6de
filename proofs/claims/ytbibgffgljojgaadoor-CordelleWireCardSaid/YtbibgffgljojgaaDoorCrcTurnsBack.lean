/- The statement CrcTurnsBack, walked: it returns true. No condition but the frame's. -/
import Derived.Test.YtbibgffgljojgaaDoorCrcTurn
namespace Go.Proofs.YtbibgffgljojgaaDoor
open Go.RowKit

theorem wf_u32 {n : Int} (h : (Lit.int .u32 n).wf = true) : 0 ≤ n ∧ n ≤ 4294967295 := by
  simp [Lit.wf, IntKind.min, IntKind.max, IntKind.signed, IntKind.bits] at h; omega
theorem mask_of (a : Int) (h : (Lit.int .u32 a).wf = true) : ∃ m : BitVec 32, a = (m.toNat : Int) := by
  obtain ⟨h1, h2⟩ := wf_u32 h
  exact ⟨BitVec.ofNat 32 a.toNat, by rw [BitVec.toNat_ofNat, Nat.mod_eq_of_lt (by omega)]; omega⟩

end Go.Proofs.YtbibgffgljojgaaDoor
