/- Layer 13's awake and the statement SourceTwice, walked. No condition but the frame's. -/
import Derived.Test.YtfoefkoneekolaaDoorSource5
namespace Go.Proofs.YtfoefkoneekolaaDoor
open Go.RowKit
attribute [local go_sem ↓] Go.wp_at_zero Go.wp_at_succ

theorem wf_u16 {n : Int} (h : (Lit.int .u16 n).wf = true) : 0 ≤ n ∧ n ≤ 65535 := by
  simp [Lit.wf, IntKind.min, IntKind.max, IntKind.signed, IntKind.bits] at h
  omega
theorem SliceOf.litF {w : World} {g : Nat} {t : TypeId} {cs : Array Value} {n : Nat} (h : Blk w g t cs) (hn : cs.size = n) (hm : n ≤ 1000) (E : Nat → Value) (hE : ∀ i, i < n → cs[i]? = some (E i)) :
    SliceOf w (some ⟨g, 0, none⟩) n n 1 (fun i => [E i]) := by
  refine ⟨Nat.le_refl _, by rw [maxLen_eq]; omega, fun hp => ⟨g, 0, rfl, h.lt, fun i hi j v hv => ?_⟩⟩
  match j, hv with
  | 0, hv =>
    simp at hv
    subst hv
    have := h.cell i
    simp only [Nat.mul_one, Nat.add_zero, Nat.zero_add]
    rw [this]
    exact hE i hi
theorem SliceOf.cut {w : World} {a : Option Addr} {n c size m : Nat} {E : Nat → List Value} (h : SliceOf w a n c size E) (hm : m ≤ n) : SliceOf w a m c size E := by
  refine ⟨Nat.le_trans hm h.1, h.2.1, fun hp => ?_⟩
  obtain ⟨b, off, e, hb, hc⟩ := h.2.2 (by omega)
  exact ⟨b, off, e, hb, fun i hi => hc i (by omega)⟩
def seq789 (i : Nat) : Int := if i = 0 then 7 else if i = 1 then 8 else 9

theorem upd_same (s r : S6) (ok : Bool) (k : Int) (hs : InS k s) (h : updS s s.mx = (r, ok)) :
    (0 < s.pr ∧ ok = false ∧ r.mx = s.mx ∧ r.pr = 1) ∨ (s.pr ≤ 0 ∧ ok = true ∧ r = ⟨s.mx, s.cy, s.ba, s.bd, s.pr, s.rc + 1⟩) := by
  unfold InS at hs
  unfold updS proveS at h
  by_cases hp : 0 < s.pr
  · rw [if_pos hp, if_neg (by omega)] at h
    injection h with h1 h2
    left
    exact ⟨hp, h2.symm, by rw [← h1], by rw [← h1]⟩
  · rw [if_neg hp, if_pos (by omega), if_neg (by omega)] at h
    injection h with h1 h2
    right
    exact ⟨by omega, h2.symm, h1.symm⟩
end Go.Proofs.YtfoefkoneekolaaDoor
