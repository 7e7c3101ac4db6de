/- The statement SourceCounts, walked: it returns true. No condition but the frame's. -/
import Derived.Test.YtfoefkoneekolaaDoorSourceTwice
namespace Go.Proofs.YtfoefkoneekolaaDoor
open Go.RowKit
attribute [local go_sem ↓] Go.wp_at_zero Go.wp_at_succ
attribute [local go_sem] i64_and4095

def cS (top f1 i : Int) : S6 := ⟨top % 65536, top - top % 65536, f1, 65537, 0, i + 1⟩
theorem cS_in (top f1 i : Int) (h0 : 0 ≤ top) (h1 : top ≤ 65535 + 3000 * i) (hi : 0 ≤ i) (a : 0 ≤ f1) (b : f1 ≤ 65535) : InS (i + 1) (cS top f1 i) := by
  unfold InS cS; simp only; omega
theorem mx_eq2 (x y : Int) : (if x < y then y else x) = max x y := by split <;> omega
theorem cS_upd (top f1 i d : Int) (h0 : 0 ≤ top) (d0 : -99 ≤ d) (d1 : d ≤ 2999) : updS (cS top f1 i) ((top + d) % 65536) = (cS (max top (top + d)) f1 (i + 1), true) := by
  unfold updS cS
  simp only
  rw [if_neg (by omega)]
  by_cases h : 0 ≤ d
  · rw [if_pos (by omega)]
    have hm : max top (top + d) = top + d := by omega
    rw [hm]
    simp only [Prod.mk.injEq, S6.mk.injEq, and_true, true_and]
    split <;> omega
  · rw [if_neg (by omega), if_neg (by omega)]
    have hm : max top (top + d) = top := by omega
    rw [hm]
theorem cS_ext (top d : Int) (h0 : 0 ≤ top) (h1 : top ≤ 1000000) (d0 : -99 ≤ d) (d1 : d ≤ 2999) : extI (max top (top + d)) ((top + d) % 65536) = max top (top + d) - max 0 (-d) := by
  rw [ext_near _ _ (by omega) (by omega)]
  unfold diffI
  omega
theorem cS_start (a0 : Int) (f0 : 0 ≤ a0) (f1 : a0 ≤ 65535) : runS (newS a0) (fun i => if i = 0 then a0 else (a0 + 1) % 65536) 2 = (cS ((a0 + 1) % 65536) ((a0 + 1) % 65536) 0, 1) := by
  have e1 : updS (newS a0) a0 = (⟨a0, 0, a0, 65537, 1, 0⟩, false) := by
    unfold updS proveS newS
    simp only
    rw [if_pos (by omega), if_pos (by omega), if_neg (by omega)]
    rfl
  have e2 : updS ⟨a0, 0, a0, 65537, 1, 0⟩ ((a0 + 1) % 65536) = (⟨(a0 + 1) % 65536, 0, (a0 + 1) % 65536, 65537, 0, 1⟩, true) := by
    unfold updS proveS
    simp only
    rw [if_pos (by omega)]
    simp
  have r1 : runS (newS a0) (fun i => if i = 0 then a0 else (a0 + 1) % 65536) 1 = (⟨a0, 0, a0, 65537, 1, 0⟩, 0) := by
    show ((updS (newS a0) a0).1, if (updS (newS a0) a0).2 then (0 : Int) + 1 else 0) = _
    rw [e1]
    rfl
  show ((updS (runS (newS a0) (fun i => if i = 0 then a0 else (a0 + 1) % 65536) 1).1 ((a0 + 1) % 65536)).1, if (updS (runS (newS a0) (fun i => if i = 0 then a0 else (a0 + 1) % 65536) 1).1 ((a0 + 1) % 65536)).2 then (runS (newS a0) (fun i => if i = 0 then a0 else (a0 + 1) % 65536) 1).2 + 1 else (runS (newS a0) (fun i => if i = 0 then a0 else (a0 + 1) % 65536) 1).2) = _
  rw [r1]
  simp only
  rw [e2]
  unfold cS
  simp only [if_true, Prod.mk.injEq, S6.mk.injEq, true_and, and_true]
  omega

end Go.Proofs.YtfoefkoneekolaaDoor
