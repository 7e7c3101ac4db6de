/- What the tied tables of package life give a walk: their cells. No condition. -/
import Derived.Test.YtfoefkoneekolaaDoorRows
import Derived.Test.YtfoefkoneekolaaDoorTie
import Derived.Test.YtfoefkoneekolaaDoorLife3
import Derived.ProofKit
import Derived.LaidMore
import Derived.OpenShut
import Derived.Stop.Joined
namespace Go.Proofs.YtfoefkoneekolaaDoor
open Go.ChangeShapes Go.WideShapes Go.ChangeAt Go.WideMaps Go.WideElems Go.RowKit

theorem lt_of_cell {w : World} {a : Addr} {v : Value} (h : w.cell? a = some v) : a.block < w.heap.size := by
  rcases Nat.lt_or_ge a.block w.heap.size with h1 | h1
  · exact h1
  · unfold World.cell? at h
    rw [Array.getElem?_eq_none h1] at h
    simp at h

section
variable {H : Type} {enc : TypeId × Value → H} {w : World} {base : Nat} {spare : Nat → Bool} {held : Bool}
theorem tab4 {n : Nat} {cs : List Value} {q : List MemPlace} {a b c d : Int} (h : DataW.trod enc Tryd.prog w base spare held n 67 cs = some (.agg [.lit (.int .i64 a), .lit (.int .i64 b), .lit (.int .i64 c), .lit (.int .i64 d)], q)) :
    cs = [.int .i64 a, .int .i64 b, .int .i64 c, .int .i64 d] := by
  obtain ⟨xs, m, _, hx, hl, hxs, hf⟩ := DataW.trod_array Tryd.underlying67 h
  have hl' : cs.length = 4 := hl.trans (by kernel_rfl)
  have hce : Tryd.prog.cellsOf 3 = 1 := by kernel_rfl
  simp only [Prod.mk.injEq, DataW.agg.injEq] at hx
  have h0 := hf 0 (by decide)
  have h1 := hf 1 (by decide)
  have h2 := hf 2 (by decide)
  have h3 := hf 3 (by decide)
  rw [hce] at h0 h1 h2 h3
  match cs, hl' with
  | [c0, c1, c2, c3], _ =>
    match xs, hxs, hx, h0, h1, h2, h3 with
    | [x0, x1, x2, x3], _, hx, h0, h1, h2, h3 =>
      simp only [List.map_cons, List.map_nil, List.cons.injEq, and_true] at hx
      obtain ⟨k0, e0, f0, _⟩ := DataW.trod_int Tryd.underlying3 (show DataW.trod _ Tryd.prog w base _ held m 3 [c0] = some x0 from h0)
      obtain ⟨k1, e1, f1, _⟩ := DataW.trod_int Tryd.underlying3 (show DataW.trod _ Tryd.prog w base _ held m 3 [c1] = some x1 from h1)
      obtain ⟨k2, e2, f2, _⟩ := DataW.trod_int Tryd.underlying3 (show DataW.trod _ Tryd.prog w base _ held m 3 [c2] = some x2 from h2)
      obtain ⟨k3, e3, f3, _⟩ := DataW.trod_int Tryd.underlying3 (show DataW.trod _ Tryd.prog w base _ held m 3 [c3] = some x3 from h3)
      rw [f0, f1, f2, f3] at hx
      simp at hx e0 e1 e2 e3
      obtain ⟨⟨g0, g1, g2, g3⟩, _⟩ := hx
      rw [e0, e1, e2, e3, g0, g1, g2, g3]
end

theorem tabs_of_laid {W : World} (h : laidMetH Tryd.prog [("cordelle/life.better", Rows.laid_cordelle_life_better), ("cordelle/life.worse", Rows.laid_cordelle_life_worse)] W) : Tabs W := by
  rw [MakeChecks.laidMetH_plain _ _ _ (by kernel_rfl)] at h
  obtain ⟨ps, ⟨g0, t0, cs0, f0, p0, q0, hg0, ht0, hv0, hd0, ⟨g1, t1, cs1, f1, p1, q1, hg1, ht1, hv1, hd1, _, _⟩, _⟩, _, _⟩ := h
  obtain rfl := Option.some.inj ((show Tryd.prog.globalNamed "cordelle/life.better" = some 0 by kernel_rfl).symm.trans hg0)
  obtain rfl := Option.some.inj ((show Tryd.prog.globalNamed "cordelle/life.worse" = some 1 by kernel_rfl).symm.trans hg1)
  obtain rfl := Option.some.inj ((show (Tryd.prog.globals[0]?).map (·.type) = some 67 by kernel_rfl).symm.trans ht0)
  obtain rfl := Option.some.inj ((show (Tryd.prog.globals[1]?).map (·.type) = some 67 by kernel_rfl).symm.trans ht1)
  have e0 := tab4 hd0
  have e1 := tab4 hd1
  obtain ⟨l0⟩ := cs0
  obtain ⟨l1⟩ := cs1
  simp only at e0 e1
  subst e0 e1
  have a0 := World.var?_cell hg0 hv0 0
  have a1 := World.var?_cell hg0 hv0 1
  have a2 := World.var?_cell hg0 hv0 2
  have a3 := World.var?_cell hg0 hv0 3
  have b0 := World.var?_cell hg1 hv1 0
  have b1 := World.var?_cell hg1 hv1 1
  have b2 := World.var?_cell hg1 hv1 2
  have b3 := World.var?_cell hg1 hv1 3
  simp at a0 a1 a2 a3 b0 b1 b2 b3
  exact ⟨lt_of_cell b0, ⟨a0, a1, a2, a3⟩, b0, b1, b2, b3⟩

theorem door_met (os : Os) (args : Array Value) : laidMetH Tryd.prog [("cordelle/life.better", Rows.laid_cordelle_life_better), ("cordelle/life.worse", Rows.laid_cordelle_life_worse)] ((World.doorLaid Tryd.prog 400 os).forCall (fun _ _ => 0) ⟨#[], args, []⟩).memory :=
  laidMetH_of_parts3 (fuel := 8) (laidMet_of_run' 8 (by kernel_rfl) (by kernel_rfl)) (by kernel_rfl) (by kernel_rfl)
end Go.Proofs.YtfoefkoneekolaaDoor
