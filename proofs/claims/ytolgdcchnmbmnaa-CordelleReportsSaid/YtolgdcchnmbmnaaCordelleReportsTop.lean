/- CordelleReports: for every input the law returns true, and each argument reads behind the call as it read before. No condition. -/
import Derived.Test.YtolgdcchnmbmnaaRows
import Derived.Test.YtolgdcchnmbmnaaArgs
import Derived.Test.YtolgdcchnmbmnaaCordelleReports
import Derived.WalkKit
import Derived.ProofKit
import Derived.OpenShut
import Derived.ShutString
import Derived.ChangeOld
import Derived.Below
import Derived.Deep.Slices
namespace Go.Proofs.Ytolgdcchnmbmnaa.cordelleReports
open Go.ChangeShapes Go.WideShapes Go.ChangeAt Go.RowKit Go.Deep
open Go.ChangeMaps (open_string shut_string)
set_option linter.unusedVariables false

theorem own : ownKnob Try.prog.godebug = none := by kernel_rfl
theorem laidOut : laidOutB Try.prog = true := by kernel_rfl

section
variable {H : Type} {enc : TypeId × Value → H} {w : World} {base : Nat} {spare : Nat → Bool} {held : Bool}
set_option maxRecDepth 20000 in
theorem phi27 {n : Nat} {cs : List Value} {x : DataW H × List MemPlace} (h : DataW.trod enc Try.prog w base spare held n 27 cs = some x) :
    ∃ (y0 : Int), cs = [.int .u32 y0] ∧ (Lit.int .u32 y0).wf = true := by
  obtain ⟨y0, rfl, _, hw⟩ := DataW.trod_int Try.underlying27 h
  exact ⟨y0, rfl, hw⟩

set_option maxRecDepth 20000 in
theorem phi4 {n : Nat} {cs : List Value} {x : DataW H × List MemPlace} (h : DataW.trod enc Try.prog w base spare held n 4 cs = some x) :
    ∃ (y0 : Bool), cs = [.bool y0] := by
  obtain ⟨y0, rfl, _⟩ := DataW.trod_bool Try.underlying4 h
  exact ⟨y0, rfl⟩

set_option maxRecDepth 20000 in
theorem phi3 {n : Nat} {cs : List Value} {x : DataW H × List MemPlace} (h : DataW.trod enc Try.prog w base spare held n 3 cs = some x) :
    ∃ (y0 : Int), cs = [.int .i64 y0] ∧ (Lit.int .i64 y0).wf = true := by
  obtain ⟨y0, rfl, _, hw⟩ := DataW.trod_int Try.underlying3 h
  exact ⟨y0, rfl, hw⟩

set_option maxRecDepth 20000 in
theorem phi29 {n : Nat} {cs : List Value} {x : DataW H × List MemPlace} (h : DataW.trod enc Try.prog w base spare held n 29 cs = some x) :
    ∃ (y0 : Int) (y1 : Int) (y2 : Int) (y3 : Int), cs = [.int .i64 y0, .int .u32 y1, .int .u32 y2, .int .u32 y3] ∧ (Lit.int .i64 y0).wf = true ∧ (Lit.int .u32 y1).wf = true ∧ (Lit.int .u32 y2).wf = true ∧ (Lit.int .u32 y3).wf = true := by
  obtain ⟨xs, m, _, _, hl, hxs, hf⟩ := DataW.trod_struct Try.underlying29 h
  have hl' : cs.length = 4 := hl.trans (by kernel_rfl)
  match cs, hl' with
  | [c0, c1, c2, c3], _ =>
    have h0 := hf 0 _ rfl
    have hx0 : ∃ z, xs[0]? = some z := ⟨_, List.getElem?_eq_getElem (by rw [hxs]; decide)⟩
    obtain ⟨z0, hz0⟩ := hx0
    have g0 : DataW.trod enc Try.prog w base spare held m 3 [c0] = some z0 := h0.trans hz0
    obtain ⟨f0v0, q0, f0w0_0⟩ := phi3 g0
    simp only [List.cons.injEq, and_true] at q0
    subst q0
    have h1 := hf 1 _ rfl
    have hx1 : ∃ z, xs[1]? = some z := ⟨_, List.getElem?_eq_getElem (by rw [hxs]; decide)⟩
    obtain ⟨z1, hz1⟩ := hx1
    have g1 : DataW.trod enc Try.prog w base spare held m 27 [c1] = some z1 := h1.trans hz1
    obtain ⟨f1v0, q1, f1w0_0⟩ := phi27 g1
    simp only [List.cons.injEq, and_true] at q1
    subst q1
    have h2 := hf 2 _ rfl
    have hx2 : ∃ z, xs[2]? = some z := ⟨_, List.getElem?_eq_getElem (by rw [hxs]; decide)⟩
    obtain ⟨z2, hz2⟩ := hx2
    have g2 : DataW.trod enc Try.prog w base spare held m 27 [c2] = some z2 := h2.trans hz2
    obtain ⟨f2v0, q2, f2w0_0⟩ := phi27 g2
    simp only [List.cons.injEq, and_true] at q2
    subst q2
    have h3 := hf 3 _ rfl
    have hx3 : ∃ z, xs[3]? = some z := ⟨_, List.getElem?_eq_getElem (by rw [hxs]; decide)⟩
    obtain ⟨z3, hz3⟩ := hx3
    have g3 : DataW.trod enc Try.prog w base spare held m 27 [c3] = some z3 := h3.trans hz3
    obtain ⟨f3v0, q3, f3w0_0⟩ := phi27 g3
    simp only [List.cons.injEq, and_true] at q3
    subst q3
    exact ⟨f0v0, f1v0, f2v0, f3v0, rfl, f0w0_0, f1w0_0, f2w0_0, f3w0_0⟩

set_option maxRecDepth 20000 in
theorem phi49 {n : Nat} {cs : List Value} {x : DataW H × List MemPlace} (h : DataW.trod enc Try.prog w base spare held n 49 cs = some x) :
    ∃ (y0 : Int) (y1 : Int) (y2 : Int) (y3 : Int) (y4 : Int) (y5 : Int) (y6 : Int), cs = [.int .u32 y0, .int .i64 y1, .int .i64 y2, .int .u32 y3, .int .u32 y4, .int .u32 y5, .int .u32 y6] ∧ (Lit.int .u32 y0).wf = true ∧ (Lit.int .i64 y1).wf = true ∧ (Lit.int .i64 y2).wf = true ∧ (Lit.int .u32 y3).wf = true ∧ (Lit.int .u32 y4).wf = true ∧ (Lit.int .u32 y5).wf = true ∧ (Lit.int .u32 y6).wf = true := by
  obtain ⟨xs, m, _, _, hl, hxs, hf⟩ := DataW.trod_struct Try.underlying49 h
  have hl' : cs.length = 7 := hl.trans (by kernel_rfl)
  match cs, hl' with
  | [c0, c1, c2, c3, c4, c5, c6], _ =>
    have h0 := hf 0 _ rfl
    have hx0 : ∃ z, xs[0]? = some z := ⟨_, List.getElem?_eq_getElem (by rw [hxs]; decide)⟩
    obtain ⟨z0, hz0⟩ := hx0
    have g0 : DataW.trod enc Try.prog w base spare held m 27 [c0] = some z0 := h0.trans hz0
    obtain ⟨f0v0, q0, f0w0_0⟩ := phi27 g0
    simp only [List.cons.injEq, and_true] at q0
    subst q0
    have h1 := hf 1 _ rfl
    have hx1 : ∃ z, xs[1]? = some z := ⟨_, List.getElem?_eq_getElem (by rw [hxs]; decide)⟩
    obtain ⟨z1, hz1⟩ := hx1
    have g1 : DataW.trod enc Try.prog w base spare held m 3 [c1] = some z1 := h1.trans hz1
    obtain ⟨f1v0, q1, f1w0_0⟩ := phi3 g1
    simp only [List.cons.injEq, and_true] at q1
    subst q1
    have h2 := hf 2 _ rfl
    have hx2 : ∃ z, xs[2]? = some z := ⟨_, List.getElem?_eq_getElem (by rw [hxs]; decide)⟩
    obtain ⟨z2, hz2⟩ := hx2
    have g2 : DataW.trod enc Try.prog w base spare held m 3 [c2] = some z2 := h2.trans hz2
    obtain ⟨f2v0, q2, f2w0_0⟩ := phi3 g2
    simp only [List.cons.injEq, and_true] at q2
    subst q2
    have h3 := hf 3 _ rfl
    have hx3 : ∃ z, xs[3]? = some z := ⟨_, List.getElem?_eq_getElem (by rw [hxs]; decide)⟩
    obtain ⟨z3, hz3⟩ := hx3
    have g3 : DataW.trod enc Try.prog w base spare held m 27 [c3] = some z3 := h3.trans hz3
    obtain ⟨f3v0, q3, f3w0_0⟩ := phi27 g3
    simp only [List.cons.injEq, and_true] at q3
    subst q3
    have h4 := hf 4 _ rfl
    have hx4 : ∃ z, xs[4]? = some z := ⟨_, List.getElem?_eq_getElem (by rw [hxs]; decide)⟩
    obtain ⟨z4, hz4⟩ := hx4
    have g4 : DataW.trod enc Try.prog w base spare held m 27 [c4] = some z4 := h4.trans hz4
    obtain ⟨f4v0, q4, f4w0_0⟩ := phi27 g4
    simp only [List.cons.injEq, and_true] at q4
    subst q4
    have h5 := hf 5 _ rfl
    have hx5 : ∃ z, xs[5]? = some z := ⟨_, List.getElem?_eq_getElem (by rw [hxs]; decide)⟩
    obtain ⟨z5, hz5⟩ := hx5
    have g5 : DataW.trod enc Try.prog w base spare held m 27 [c5] = some z5 := h5.trans hz5
    obtain ⟨f5v0, q5, f5w0_0⟩ := phi27 g5
    simp only [List.cons.injEq, and_true] at q5
    subst q5
    have h6 := hf 6 _ rfl
    have hx6 : ∃ z, xs[6]? = some z := ⟨_, List.getElem?_eq_getElem (by rw [hxs]; decide)⟩
    obtain ⟨z6, hz6⟩ := hx6
    have g6 : DataW.trod enc Try.prog w base spare held m 27 [c6] = some z6 := h6.trans hz6
    obtain ⟨f6v0, q6, f6w0_0⟩ := phi27 g6
    simp only [List.cons.injEq, and_true] at q6
    subst q6
    exact ⟨f0v0, f1v0, f2v0, f3v0, f4v0, f5v0, f6v0, rfl, f0w0_0, f1w0_0, f2w0_0, f3w0_0, f4w0_0, f5w0_0, f6w0_0⟩

set_option maxRecDepth 20000 in
theorem phi32 {n : Nat} {cs : List Value} {x : DataW H × List MemPlace} (h : DataW.trod enc Try.prog w base spare held n 32 cs = some x) :
    ∃ (y0 : Int) (y1 : Bool) (y2 : Int) (y3 : Int) (y4 : Int) (y5 : Int) (y6 : Option Addr) (y7 : Nat) (y8 : Nat) (y9 : Nat → Int) (y10 : Nat → Int) (y11 : Nat → Int) (y12 : Nat → Int) (y13 : Nat → Int) (y14 : Nat → Int) (y15 : Nat → Int), cs = [.int .u32 y0, .bool y1, .int .i64 y2, .int .u32 y3, .int .u32 y4, .int .u32 y5, .slice y6 y7 y8] ∧ (Lit.int .u32 y0).wf = true ∧ (Lit.int .i64 y2).wf = true ∧ (Lit.int .u32 y3).wf = true ∧ (Lit.int .u32 y4).wf = true ∧ (Lit.int .u32 y5).wf = true ∧ SliceOf w y6 y7 y8 7 (fun j => [.int .u32 (y9 j), .int .i64 (y10 j), .int .i64 (y11 j), .int .u32 (y12 j), .int .u32 (y13 j), .int .u32 (y14 j), .int .u32 (y15 j)]) ∧ (∀ j, j < y7 → (Lit.int .u32 (y9 j)).wf = true) ∧ (∀ j, j < y7 → (Lit.int .i64 (y10 j)).wf = true) ∧ (∀ j, j < y7 → (Lit.int .i64 (y11 j)).wf = true) ∧ (∀ j, j < y7 → (Lit.int .u32 (y12 j)).wf = true) ∧ (∀ j, j < y7 → (Lit.int .u32 (y13 j)).wf = true) ∧ (∀ j, j < y7 → (Lit.int .u32 (y14 j)).wf = true) ∧ (∀ j, j < y7 → (Lit.int .u32 (y15 j)).wf = true) := by
  obtain ⟨xs, m, _, _, hl, hxs, hf⟩ := DataW.trod_struct Try.underlying32 h
  have hl' : cs.length = 7 := hl.trans (by kernel_rfl)
  match cs, hl' with
  | [c0, c1, c2, c3, c4, c5, c6], _ =>
    have h0 := hf 0 _ rfl
    have hx0 : ∃ z, xs[0]? = some z := ⟨_, List.getElem?_eq_getElem (by rw [hxs]; decide)⟩
    obtain ⟨z0, hz0⟩ := hx0
    have g0 : DataW.trod enc Try.prog w base spare held m 27 [c0] = some z0 := h0.trans hz0
    obtain ⟨f0v0, q0, f0w0_0⟩ := phi27 g0
    simp only [List.cons.injEq, and_true] at q0
    subst q0
    have h1 := hf 1 _ rfl
    have hx1 : ∃ z, xs[1]? = some z := ⟨_, List.getElem?_eq_getElem (by rw [hxs]; decide)⟩
    obtain ⟨z1, hz1⟩ := hx1
    have g1 : DataW.trod enc Try.prog w base spare held m 4 [c1] = some z1 := h1.trans hz1
    obtain ⟨f1v0, q1⟩ := phi4 g1
    simp only [List.cons.injEq, and_true] at q1
    subst q1
    have h2 := hf 2 _ rfl
    have hx2 : ∃ z, xs[2]? = some z := ⟨_, List.getElem?_eq_getElem (by rw [hxs]; decide)⟩
    obtain ⟨z2, hz2⟩ := hx2
    have g2 : DataW.trod enc Try.prog w base spare held m 29 [c2, c3, c4, c5] = some z2 := h2.trans hz2
    obtain ⟨f2v0, f2v1, f2v2, f2v3, q2, f2w0_0, f2w1_0, f2w2_0, f2w3_0⟩ := phi29 g2
    simp only [List.cons.injEq, and_true] at q2
    obtain ⟨rfl, rfl, rfl, rfl⟩ := q2
    have h3 := hf 3 _ rfl
    have hx3 : ∃ z, xs[3]? = some z := ⟨_, List.getElem?_eq_getElem (by rw [hxs]; decide)⟩
    obtain ⟨z3, hz3⟩ := hx3
    have g3 : DataW.trod enc Try.prog w base spare held m 30 [c6] = some z3 := h3.trans hz3
    obtain ⟨f3a, f3l, f3c, e3, E3, hE3, hP3⟩ := sliceOf_open (size := 7) Try.underlying30 (by kernel_rfl) (by decide) (fun cs => ∃ (y0 : Int) (y1 : Int) (y2 : Int) (y3 : Int) (y4 : Int) (y5 : Int) (y6 : Int), cs = [.int .u32 y0, .int .i64 y1, .int .i64 y2, .int .u32 y3, .int .u32 y4, .int .u32 y5, .int .u32 y6] ∧ (Lit.int .u32 y0).wf = true ∧ (Lit.int .i64 y1).wf = true ∧ (Lit.int .i64 y2).wf = true ∧ (Lit.int .u32 y3).wf = true ∧ (Lit.int .u32 y4).wf = true ∧ (Lit.int .u32 y5).wf = true ∧ (Lit.int .u32 y6).wf = true) (fun _ _ _ h => phi49 h) g3
    subst e3
    obtain ⟨f3X, f3hX⟩ := choose_lt (α := Int × Int × Int × Int × Int × Int × Int) (p := fun i X => E3 i = [.int .u32 (X.1), .int .i64 (X.2.1), .int .i64 (X.2.2.1), .int .u32 (X.2.2.2.1), .int .u32 (X.2.2.2.2.1), .int .u32 (X.2.2.2.2.2.1), .int .u32 (X.2.2.2.2.2.2)] ∧ (Lit.int .u32 (X.1)).wf = true ∧ (Lit.int .i64 (X.2.1)).wf = true ∧ (Lit.int .i64 (X.2.2.1)).wf = true ∧ (Lit.int .u32 (X.2.2.2.1)).wf = true ∧ (Lit.int .u32 (X.2.2.2.2.1)).wf = true ∧ (Lit.int .u32 (X.2.2.2.2.2.1)).wf = true ∧ (Lit.int .u32 (X.2.2.2.2.2.2)).wf = true) (fun i hi => by
      obtain ⟨y0, y1, y2, y3, y4, y5, y6, hq⟩ := hP3 i hi
      exact ⟨(y0, y1, y2, y3, y4, y5, y6), hq⟩)
    have f3S : SliceOf w f3a f3l f3c 7 (fun i => [.int .u32 ((f3X i).1), .int .i64 ((f3X i).2.1), .int .i64 ((f3X i).2.2.1), .int .u32 ((f3X i).2.2.2.1), .int .u32 ((f3X i).2.2.2.2.1), .int .u32 ((f3X i).2.2.2.2.2.1), .int .u32 ((f3X i).2.2.2.2.2.2)]) := by
      refine ⟨hE3.1, hE3.2.1, fun hp => ?_⟩
      obtain ⟨b, off, ha, hb, hc⟩ := hE3.2.2 hp
      refine ⟨b, off, ha, hb, fun i hi j v hv => hc i hi j v ?_⟩
      rw [(f3hX i hi).1]
      exact hv
    have f3F0 : ∀ i, i < f3l → (Lit.int .u32 ((f3X i).1)).wf = true := fun i hi => (f3hX i hi).2.1
    have f3F1 : ∀ i, i < f3l → (Lit.int .i64 ((f3X i).2.1)).wf = true := fun i hi => (f3hX i hi).2.2.1
    have f3F2 : ∀ i, i < f3l → (Lit.int .i64 ((f3X i).2.2.1)).wf = true := fun i hi => (f3hX i hi).2.2.2.1
    have f3F3 : ∀ i, i < f3l → (Lit.int .u32 ((f3X i).2.2.2.1)).wf = true := fun i hi => (f3hX i hi).2.2.2.2.1
    have f3F4 : ∀ i, i < f3l → (Lit.int .u32 ((f3X i).2.2.2.2.1)).wf = true := fun i hi => (f3hX i hi).2.2.2.2.2.1
    have f3F5 : ∀ i, i < f3l → (Lit.int .u32 ((f3X i).2.2.2.2.2.1)).wf = true := fun i hi => (f3hX i hi).2.2.2.2.2.2.1
    have f3F6 : ∀ i, i < f3l → (Lit.int .u32 ((f3X i).2.2.2.2.2.2)).wf = true := fun i hi => (f3hX i hi).2.2.2.2.2.2.2
    exact ⟨f0v0, f1v0, f2v0, f2v1, f2v2, f2v3, f3a, f3l, f3c, (fun i => (f3X i).1), (fun i => (f3X i).2.1), (fun i => (f3X i).2.2.1), (fun i => (f3X i).2.2.2.1), (fun i => (f3X i).2.2.2.2.1), (fun i => (f3X i).2.2.2.2.2.1), (fun i => (f3X i).2.2.2.2.2.2), rfl, f0w0_0, f2w0_0, f2w1_0, f2w2_0, f2w3_0, f3S, f3F0, f3F1, f3F2, f3F3, f3F4, f3F5, f3F6⟩
end

set_option maxRecDepth 100000 in
theorem lifted (os : Os) (started : os.Started) (H : Type) (enc : TypeId × Value → H) :
    ReturnsInHanded {} Try.checked os 3 .any (Rows.cordelleReportsSpec.pre6 enc Try.prog Try.f3 Rows.cordelleReportsRow.domain false) (Rows.cordelleReportsSpec.post enc Try.prog Try.f3 false true false false) := by
  refine returnsInHanded_of_change (C := Try.checked) own started (by kernel_rfl) Try.func3
    (ChangeSpec.witness6 (enc := enc) (C := Try.checked) false ⟨#[], #[.slice none 0 0], []⟩ 8 (by kernel_rfl) (by kernel_rfl) (by kernel_rfl) (by kernel_rfl)) ?_
  intro w base args ds gs before hval0 hW hcnd _
  have hval : ∀ (j : Nat) t v, Try.f3.params[j]? = some t → args[j]? = some v → Value.okWide Try.prog w .any base t v := hval0
  have hW' := hW
  obtain ⟨p, q, hA0, hV, rfl, hfz, hnd⟩ := hW
  have hA : DataW.TrodAll enc Try.prog w 0 (fun _ => true) true Try.f3.params.toList args.toList ds p := hA0
  rw [Try.params3] at hA hval
  obtain ⟨v0, vs0, d0, ds0, p0, q0, hargs, rfl, rfl, h0, r0⟩ := trodAll_cons hA
  obtain ⟨rfl, rfl, rfl⟩ := trodAll_nil r0
  obtain rfl : args = #[v0] := by cases args; simp_all
  obtain ⟨rfl, rfl⟩ := trodVars_none hV
  have k0 := h0
  have lt0 : ∀ x ∈ p0, x.block < w.heap.size := by obtain ⟨m, hm⟩ := k0; exact DataW.trod_lt m _ _ _ hm
  obtain ⟨a0a, a0l, a0c, rfl⟩ := okWide_slice Try.underlying22 (hval 0 22 v0 rfl rfl)
  obtain ⟨n0, hn0⟩ := h0
  simp only [Value.cells] at hn0
  obtain ⟨a', l', c', e0, E0, hE0, hP0⟩ := sliceOf_open (size := 7) Try.underlying22 (by kernel_rfl) (by decide) (fun cs => ∃ (y0 : Int) (y1 : Bool) (y2 : Int) (y3 : Int) (y4 : Int) (y5 : Int) (y6 : Option Addr) (y7 : Nat) (y8 : Nat) (y9 : Nat → Int) (y10 : Nat → Int) (y11 : Nat → Int) (y12 : Nat → Int) (y13 : Nat → Int) (y14 : Nat → Int) (y15 : Nat → Int), cs = [.int .u32 y0, .bool y1, .int .i64 y2, .int .u32 y3, .int .u32 y4, .int .u32 y5, .slice y6 y7 y8] ∧ (Lit.int .u32 y0).wf = true ∧ (Lit.int .i64 y2).wf = true ∧ (Lit.int .u32 y3).wf = true ∧ (Lit.int .u32 y4).wf = true ∧ (Lit.int .u32 y5).wf = true ∧ SliceOf w y6 y7 y8 7 (fun j => [.int .u32 (y9 j), .int .i64 (y10 j), .int .i64 (y11 j), .int .u32 (y12 j), .int .u32 (y13 j), .int .u32 (y14 j), .int .u32 (y15 j)]) ∧ (∀ j, j < y7 → (Lit.int .u32 (y9 j)).wf = true) ∧ (∀ j, j < y7 → (Lit.int .i64 (y10 j)).wf = true) ∧ (∀ j, j < y7 → (Lit.int .i64 (y11 j)).wf = true) ∧ (∀ j, j < y7 → (Lit.int .u32 (y12 j)).wf = true) ∧ (∀ j, j < y7 → (Lit.int .u32 (y13 j)).wf = true) ∧ (∀ j, j < y7 → (Lit.int .u32 (y14 j)).wf = true) ∧ (∀ j, j < y7 → (Lit.int .u32 (y15 j)).wf = true)) (fun _ _ _ h => phi32 h) hn0
  injection e0 with e1 e2 e3
  subst e1 e2 e3
  obtain ⟨a0X, a0hX⟩ := choose_lt (α := Int × Bool × Int × Int × Int × Int × Option Addr × Nat × Nat × (Nat → Int) × (Nat → Int) × (Nat → Int) × (Nat → Int) × (Nat → Int) × (Nat → Int) × (Nat → Int)) (p := fun i X => E0 i = [.int .u32 (X.1), .bool (X.2.1), .int .i64 (X.2.2.1), .int .u32 (X.2.2.2.1), .int .u32 (X.2.2.2.2.1), .int .u32 (X.2.2.2.2.2.1), .slice (X.2.2.2.2.2.2.1) (X.2.2.2.2.2.2.2.1) (X.2.2.2.2.2.2.2.2.1)] ∧ (Lit.int .u32 (X.1)).wf = true ∧ (Lit.int .i64 (X.2.2.1)).wf = true ∧ (Lit.int .u32 (X.2.2.2.1)).wf = true ∧ (Lit.int .u32 (X.2.2.2.2.1)).wf = true ∧ (Lit.int .u32 (X.2.2.2.2.2.1)).wf = true ∧ SliceOf w (X.2.2.2.2.2.2.1) (X.2.2.2.2.2.2.2.1) (X.2.2.2.2.2.2.2.2.1) 7 (fun j => [.int .u32 ((X.2.2.2.2.2.2.2.2.2.1) j), .int .i64 ((X.2.2.2.2.2.2.2.2.2.2.1) j), .int .i64 ((X.2.2.2.2.2.2.2.2.2.2.2.1) j), .int .u32 ((X.2.2.2.2.2.2.2.2.2.2.2.2.1) j), .int .u32 ((X.2.2.2.2.2.2.2.2.2.2.2.2.2.1) j), .int .u32 ((X.2.2.2.2.2.2.2.2.2.2.2.2.2.2.1) j), .int .u32 ((X.2.2.2.2.2.2.2.2.2.2.2.2.2.2.2) j)]) ∧ (∀ j, j < (X.2.2.2.2.2.2.2.1) → (Lit.int .u32 ((X.2.2.2.2.2.2.2.2.2.1) j)).wf = true) ∧ (∀ j, j < (X.2.2.2.2.2.2.2.1) → (Lit.int .i64 ((X.2.2.2.2.2.2.2.2.2.2.1) j)).wf = true) ∧ (∀ j, j < (X.2.2.2.2.2.2.2.1) → (Lit.int .i64 ((X.2.2.2.2.2.2.2.2.2.2.2.1) j)).wf = true) ∧ (∀ j, j < (X.2.2.2.2.2.2.2.1) → (Lit.int .u32 ((X.2.2.2.2.2.2.2.2.2.2.2.2.1) j)).wf = true) ∧ (∀ j, j < (X.2.2.2.2.2.2.2.1) → (Lit.int .u32 ((X.2.2.2.2.2.2.2.2.2.2.2.2.2.1) j)).wf = true) ∧ (∀ j, j < (X.2.2.2.2.2.2.2.1) → (Lit.int .u32 ((X.2.2.2.2.2.2.2.2.2.2.2.2.2.2.1) j)).wf = true) ∧ (∀ j, j < (X.2.2.2.2.2.2.2.1) → (Lit.int .u32 ((X.2.2.2.2.2.2.2.2.2.2.2.2.2.2.2) j)).wf = true)) (fun i hi => by
    obtain ⟨y0, y1, y2, y3, y4, y5, y6, y7, y8, y9, y10, y11, y12, y13, y14, y15, hq⟩ := hP0 i hi
    exact ⟨(y0, y1, y2, y3, y4, y5, y6, y7, y8, y9, y10, y11, y12, y13, y14, y15), hq⟩)
  have a0S : SliceOf w a0a a0l a0c 7 (fun i => [.int .u32 ((a0X i).1), .bool ((a0X i).2.1), .int .i64 ((a0X i).2.2.1), .int .u32 ((a0X i).2.2.2.1), .int .u32 ((a0X i).2.2.2.2.1), .int .u32 ((a0X i).2.2.2.2.2.1), .slice ((a0X i).2.2.2.2.2.2.1) ((a0X i).2.2.2.2.2.2.2.1) ((a0X i).2.2.2.2.2.2.2.2.1)]) := by
    refine ⟨hE0.1, hE0.2.1, fun hp => ?_⟩
    obtain ⟨b, off, ha, hb, hc⟩ := hE0.2.2 hp
    refine ⟨b, off, ha, hb, fun i hi j v hv => hc i hi j v ?_⟩
    rw [(a0hX i hi).1]
    exact hv
  have a0F0 : ∀ i, i < a0l → (Lit.int .u32 ((a0X i).1)).wf = true := fun i hi => (a0hX i hi).2.1
  have a0F1 : ∀ i, i < a0l → (Lit.int .i64 ((a0X i).2.2.1)).wf = true := fun i hi => (a0hX i hi).2.2.1
  have a0F2 : ∀ i, i < a0l → (Lit.int .u32 ((a0X i).2.2.2.1)).wf = true := fun i hi => (a0hX i hi).2.2.2.1
  have a0F3 : ∀ i, i < a0l → (Lit.int .u32 ((a0X i).2.2.2.2.1)).wf = true := fun i hi => (a0hX i hi).2.2.2.2.1
  have a0F4 : ∀ i, i < a0l → (Lit.int .u32 ((a0X i).2.2.2.2.2.1)).wf = true := fun i hi => (a0hX i hi).2.2.2.2.2.1
  have a0F5 : ∀ i, i < a0l → SliceOf w ((a0X i).2.2.2.2.2.2.1) ((a0X i).2.2.2.2.2.2.2.1) ((a0X i).2.2.2.2.2.2.2.2.1) 7 (fun j => [.int .u32 (((a0X i).2.2.2.2.2.2.2.2.2.1) j), .int .i64 (((a0X i).2.2.2.2.2.2.2.2.2.2.1) j), .int .i64 (((a0X i).2.2.2.2.2.2.2.2.2.2.2.1) j), .int .u32 (((a0X i).2.2.2.2.2.2.2.2.2.2.2.2.1) j), .int .u32 (((a0X i).2.2.2.2.2.2.2.2.2.2.2.2.2.1) j), .int .u32 (((a0X i).2.2.2.2.2.2.2.2.2.2.2.2.2.2.1) j), .int .u32 (((a0X i).2.2.2.2.2.2.2.2.2.2.2.2.2.2.2) j)]) := fun i hi => (a0hX i hi).2.2.2.2.2.2.1
  have a0F6 : ∀ i, i < a0l → (∀ j, j < ((a0X i).2.2.2.2.2.2.2.1) → (Lit.int .u32 (((a0X i).2.2.2.2.2.2.2.2.2.1) j)).wf = true) := fun i hi => (a0hX i hi).2.2.2.2.2.2.2.1
  have a0F7 : ∀ i, i < a0l → (∀ j, j < ((a0X i).2.2.2.2.2.2.2.1) → (Lit.int .i64 (((a0X i).2.2.2.2.2.2.2.2.2.2.1) j)).wf = true) := fun i hi => (a0hX i hi).2.2.2.2.2.2.2.2.1
  have a0F8 : ∀ i, i < a0l → (∀ j, j < ((a0X i).2.2.2.2.2.2.2.1) → (Lit.int .i64 (((a0X i).2.2.2.2.2.2.2.2.2.2.2.1) j)).wf = true) := fun i hi => (a0hX i hi).2.2.2.2.2.2.2.2.2.1
  have a0F9 : ∀ i, i < a0l → (∀ j, j < ((a0X i).2.2.2.2.2.2.2.1) → (Lit.int .u32 (((a0X i).2.2.2.2.2.2.2.2.2.2.2.2.1) j)).wf = true) := fun i hi => (a0hX i hi).2.2.2.2.2.2.2.2.2.2.1
  have a0F10 : ∀ i, i < a0l → (∀ j, j < ((a0X i).2.2.2.2.2.2.2.1) → (Lit.int .u32 (((a0X i).2.2.2.2.2.2.2.2.2.2.2.2.2.1) j)).wf = true) := fun i hi => (a0hX i hi).2.2.2.2.2.2.2.2.2.2.2.1
  have a0F11 : ∀ i, i < a0l → (∀ j, j < ((a0X i).2.2.2.2.2.2.2.1) → (Lit.int .u32 (((a0X i).2.2.2.2.2.2.2.2.2.2.2.2.2.2.1) j)).wf = true) := fun i hi => (a0hX i hi).2.2.2.2.2.2.2.2.2.2.2.2.1
  have a0F12 : ∀ i, i < a0l → (∀ j, j < ((a0X i).2.2.2.2.2.2.2.1) → (Lit.int .u32 (((a0X i).2.2.2.2.2.2.2.2.2.2.2.2.2.2.2) j)).wf = true) := fun i hi => (a0hX i hi).2.2.2.2.2.2.2.2.2.2.2.2.2
  clear hA0 hval0
  refine (CordelleReports_walk a0a a0l a0c (fun i => (a0X i).1) (fun i => (a0X i).2.1) (fun i => (a0X i).2.2.1) (fun i => (a0X i).2.2.2.1) (fun i => (a0X i).2.2.2.2.1) (fun i => (a0X i).2.2.2.2.2.1) (fun i => (a0X i).2.2.2.2.2.2.1) (fun i => (a0X i).2.2.2.2.2.2.2.1) (fun i => (a0X i).2.2.2.2.2.2.2.2.1) (fun i => (a0X i).2.2.2.2.2.2.2.2.2.1) (fun i => (a0X i).2.2.2.2.2.2.2.2.2.2.1) (fun i => (a0X i).2.2.2.2.2.2.2.2.2.2.2.1) (fun i => (a0X i).2.2.2.2.2.2.2.2.2.2.2.2.1) (fun i => (a0X i).2.2.2.2.2.2.2.2.2.2.2.2.2.1) (fun i => (a0X i).2.2.2.2.2.2.2.2.2.2.2.2.2.2.1) (fun i => (a0X i).2.2.2.2.2.2.2.2.2.2.2.2.2.2.2) w a0S a0F0 a0F1 a0F2 a0F3 a0F4 a0F5 a0F6 a0F7 a0F8 a0F9 a0F10 a0F11 a0F12).mono fun e W' ⟨he, bel⟩ => ?_
  subst he
  exact ⟨_, rfl, _, _, _, [], _, [], hW', trodAll_mk1 (shut_bool Try.underlying4 _), (trodAll_cons_mk (Below.trod laidOut (by kernel_rfl) (of_decide_eq_true (by kernel_rfl)) k0 bel lt0) trodAll_mk0), rfl, bel.frame _, fun h => by cases h⟩

theorem over : Rows.cordelleReportsRow.holds Try.pinned (OpenSpec.ofChange Rows.cordelleReportsSpec) :=
  OpenClaim.holds_of_wide 3 Try.f3 rfl rfl rfl rfl rfl rfl rfl ⟨rfl, rfl, rfl, rfl, rfl⟩ rfl rfl rfl rfl rfl (by kernel_rfl) Try.func3 (by kernel_rfl)
    (of_decide_eq_true (by kernel_rfl)) (by unfold Func.isWrapper; first | (rw [if_pos (by decide +kernel)]; kernel_rfl) | (rw [if_neg (by decide +kernel)]; exact ⟨rfl, rfl⟩))
    (fun os started H enc _ => lifted os started H enc)

/-- The statement. -/
theorem proved : Rows.CordelleReportsSaid := over
#print axioms proved
end Go.Proofs.Ytolgdcchnmbmnaa.cordelleReports
