/- SubflowApart: for every input the law returns true, and each argument reads behind the call as it read before. No condition. -/
import Derived.Test.YtliilcadlijnoaaRows
import Derived.Test.YtliilcadlijnoaaArgs
import Derived.Test.YtliilcadlijnoaaSubflowApart
import Derived.WalkKit
import Derived.ProofKit
import Derived.OpenShut
import Derived.ShutString
import Derived.ChangeOld
import Derived.Below
import Derived.Deep.Slices
namespace Go.Proofs.Ytliilcadlijnoaa.subflowApart
open Go.ChangeShapes Go.WideShapes Go.ChangeAt Go.RowKit Go.Deep
open Go.ChangeMaps (open_string shut_string)
set_option linter.unusedVariables false

theorem own : ownKnob Try.prog.godebug = none := by kernel_rfl
theorem laidOut : laidOutB Try.prog = true := by kernel_rfl

section
variable {H : Type} {enc : TypeId × Value → H} {w : World} {base : Nat} {spare : Nat → Bool} {held : Bool}
set_option maxRecDepth 20000 in
theorem phi22 {n : Nat} {cs : List Value} {x : DataW H × List MemPlace} (h : DataW.trod enc Try.prog w base spare held n 22 cs = some x) :
    ∃ (y0 : Int), cs = [.int .u32 y0] ∧ (Lit.int .u32 y0).wf = true := by
  obtain ⟨y0, rfl, _, hw⟩ := DataW.trod_int Try.underlying22 h
  exact ⟨y0, rfl, hw⟩

set_option maxRecDepth 20000 in
theorem phi3 {n : Nat} {cs : List Value} {x : DataW H × List MemPlace} (h : DataW.trod enc Try.prog w base spare held n 3 cs = some x) :
    ∃ (y0 : Int), cs = [.int .i64 y0] ∧ (Lit.int .i64 y0).wf = true := by
  obtain ⟨y0, rfl, _, hw⟩ := DataW.trod_int Try.underlying3 h
  exact ⟨y0, rfl, hw⟩

set_option maxRecDepth 20000 in
theorem phi67 {n : Nat} {cs : List Value} {x : DataW H × List MemPlace} (h : DataW.trod enc Try.prog w base spare held n 67 cs = some x) :
    ∃ (y0 : Int) (y1 : Int) (y2 : Int) (y3 : Int) (y4 : Int) (y5 : Int) (y6 : Int) (y7 : Int), cs = [.int .i64 y0, .int .i64 y1, .int .i64 y2, .int .u32 y3, .int .u32 y4, .int .u32 y5, .int .u32 y6, .int .u32 y7] ∧ (Lit.int .i64 y0).wf = true ∧ (Lit.int .i64 y1).wf = true ∧ (Lit.int .i64 y2).wf = true ∧ (Lit.int .u32 y3).wf = true ∧ (Lit.int .u32 y4).wf = true ∧ (Lit.int .u32 y5).wf = true ∧ (Lit.int .u32 y6).wf = true ∧ (Lit.int .u32 y7).wf = true := by
  obtain ⟨xs, m, _, _, hl, hxs, hf⟩ := DataW.trod_struct Try.underlying67 h
  have hl' : cs.length = 8 := hl.trans (by kernel_rfl)
  match cs, hl' with
  | [c0, c1, c2, c3, c4, c5, c6, c7], _ =>
    have h0 := hf 0 _ rfl
    have hx0 : ∃ z, xs[0]? = some z := ⟨_, List.getElem?_eq_getElem (by rw [hxs]; decide)⟩
    obtain ⟨z0, hz0⟩ := hx0
    have g0 : DataW.trod enc Try.prog w base spare held m 3 [c0] = some z0 := h0.trans hz0
    obtain ⟨f0v0, q0, f0w0_0⟩ := phi3 g0
    simp only [List.cons.injEq, and_true] at q0
    subst q0
    have h1 := hf 1 _ rfl
    have hx1 : ∃ z, xs[1]? = some z := ⟨_, List.getElem?_eq_getElem (by rw [hxs]; decide)⟩
    obtain ⟨z1, hz1⟩ := hx1
    have g1 : DataW.trod enc Try.prog w base spare held m 3 [c1] = some z1 := h1.trans hz1
    obtain ⟨f1v0, q1, f1w0_0⟩ := phi3 g1
    simp only [List.cons.injEq, and_true] at q1
    subst q1
    have h2 := hf 2 _ rfl
    have hx2 : ∃ z, xs[2]? = some z := ⟨_, List.getElem?_eq_getElem (by rw [hxs]; decide)⟩
    obtain ⟨z2, hz2⟩ := hx2
    have g2 : DataW.trod enc Try.prog w base spare held m 3 [c2] = some z2 := h2.trans hz2
    obtain ⟨f2v0, q2, f2w0_0⟩ := phi3 g2
    simp only [List.cons.injEq, and_true] at q2
    subst q2
    have h3 := hf 3 _ rfl
    have hx3 : ∃ z, xs[3]? = some z := ⟨_, List.getElem?_eq_getElem (by rw [hxs]; decide)⟩
    obtain ⟨z3, hz3⟩ := hx3
    have g3 : DataW.trod enc Try.prog w base spare held m 22 [c3] = some z3 := h3.trans hz3
    obtain ⟨f3v0, q3, f3w0_0⟩ := phi22 g3
    simp only [List.cons.injEq, and_true] at q3
    subst q3
    have h4 := hf 4 _ rfl
    have hx4 : ∃ z, xs[4]? = some z := ⟨_, List.getElem?_eq_getElem (by rw [hxs]; decide)⟩
    obtain ⟨z4, hz4⟩ := hx4
    have g4 : DataW.trod enc Try.prog w base spare held m 22 [c4] = some z4 := h4.trans hz4
    obtain ⟨f4v0, q4, f4w0_0⟩ := phi22 g4
    simp only [List.cons.injEq, and_true] at q4
    subst q4
    have h5 := hf 5 _ rfl
    have hx5 : ∃ z, xs[5]? = some z := ⟨_, List.getElem?_eq_getElem (by rw [hxs]; decide)⟩
    obtain ⟨z5, hz5⟩ := hx5
    have g5 : DataW.trod enc Try.prog w base spare held m 22 [c5] = some z5 := h5.trans hz5
    obtain ⟨f5v0, q5, f5w0_0⟩ := phi22 g5
    simp only [List.cons.injEq, and_true] at q5
    subst q5
    have h6 := hf 6 _ rfl
    have hx6 : ∃ z, xs[6]? = some z := ⟨_, List.getElem?_eq_getElem (by rw [hxs]; decide)⟩
    obtain ⟨z6, hz6⟩ := hx6
    have g6 : DataW.trod enc Try.prog w base spare held m 22 [c6] = some z6 := h6.trans hz6
    obtain ⟨f6v0, q6, f6w0_0⟩ := phi22 g6
    simp only [List.cons.injEq, and_true] at q6
    subst q6
    have h7 := hf 7 _ rfl
    have hx7 : ∃ z, xs[7]? = some z := ⟨_, List.getElem?_eq_getElem (by rw [hxs]; decide)⟩
    obtain ⟨z7, hz7⟩ := hx7
    have g7 : DataW.trod enc Try.prog w base spare held m 22 [c7] = some z7 := h7.trans hz7
    obtain ⟨f7v0, q7, f7w0_0⟩ := phi22 g7
    simp only [List.cons.injEq, and_true] at q7
    subst q7
    exact ⟨f0v0, f1v0, f2v0, f3v0, f4v0, f5v0, f6v0, f7v0, rfl, f0w0_0, f1w0_0, f2w0_0, f3w0_0, f4w0_0, f5w0_0, f6w0_0, f7w0_0⟩

set_option maxRecDepth 20000 in
theorem phi47 {n : Nat} {cs : List Value} {x : DataW H × List MemPlace} (h : DataW.trod enc Try.prog w base spare held n 47 cs = some x) :
    ∃ (y0 : Int) (y1 : Option Addr) (y2 : Nat) (y3 : Nat) (y4 : Nat → Int) (y5 : Nat → Int) (y6 : Nat → Int) (y7 : Nat → Int) (y8 : Nat → Int) (y9 : Nat → Int) (y10 : Nat → Int) (y11 : Nat → Int), cs = [.int .u32 y0, .slice y1 y2 y3] ∧ (Lit.int .u32 y0).wf = true ∧ SliceOf w y1 y2 y3 8 (fun j => [.int .i64 (y4 j), .int .i64 (y5 j), .int .i64 (y6 j), .int .u32 (y7 j), .int .u32 (y8 j), .int .u32 (y9 j), .int .u32 (y10 j), .int .u32 (y11 j)]) ∧ (∀ j, j < y2 → (Lit.int .i64 (y4 j)).wf = true) ∧ (∀ j, j < y2 → (Lit.int .i64 (y5 j)).wf = true) ∧ (∀ j, j < y2 → (Lit.int .i64 (y6 j)).wf = true) ∧ (∀ j, j < y2 → (Lit.int .u32 (y7 j)).wf = true) ∧ (∀ j, j < y2 → (Lit.int .u32 (y8 j)).wf = true) ∧ (∀ j, j < y2 → (Lit.int .u32 (y9 j)).wf = true) ∧ (∀ j, j < y2 → (Lit.int .u32 (y10 j)).wf = true) ∧ (∀ j, j < y2 → (Lit.int .u32 (y11 j)).wf = true) := by
  obtain ⟨xs, m, _, _, hl, hxs, hf⟩ := DataW.trod_struct Try.underlying47 h
  have hl' : cs.length = 2 := hl.trans (by kernel_rfl)
  match cs, hl' with
  | [c0, c1], _ =>
    have h0 := hf 0 _ rfl
    have hx0 : ∃ z, xs[0]? = some z := ⟨_, List.getElem?_eq_getElem (by rw [hxs]; decide)⟩
    obtain ⟨z0, hz0⟩ := hx0
    have g0 : DataW.trod enc Try.prog w base spare held m 22 [c0] = some z0 := h0.trans hz0
    obtain ⟨f0v0, q0, f0w0_0⟩ := phi22 g0
    simp only [List.cons.injEq, and_true] at q0
    subst q0
    have h1 := hf 1 _ rfl
    have hx1 : ∃ z, xs[1]? = some z := ⟨_, List.getElem?_eq_getElem (by rw [hxs]; decide)⟩
    obtain ⟨z1, hz1⟩ := hx1
    have g1 : DataW.trod enc Try.prog w base spare held m 45 [c1] = some z1 := h1.trans hz1
    obtain ⟨f1a, f1l, f1c, e1, E1, hE1, hP1⟩ := sliceOf_open (size := 8) Try.underlying45 (by kernel_rfl) (by decide) (fun cs => ∃ (y0 : Int) (y1 : Int) (y2 : Int) (y3 : Int) (y4 : Int) (y5 : Int) (y6 : Int) (y7 : Int), cs = [.int .i64 y0, .int .i64 y1, .int .i64 y2, .int .u32 y3, .int .u32 y4, .int .u32 y5, .int .u32 y6, .int .u32 y7] ∧ (Lit.int .i64 y0).wf = true ∧ (Lit.int .i64 y1).wf = true ∧ (Lit.int .i64 y2).wf = true ∧ (Lit.int .u32 y3).wf = true ∧ (Lit.int .u32 y4).wf = true ∧ (Lit.int .u32 y5).wf = true ∧ (Lit.int .u32 y6).wf = true ∧ (Lit.int .u32 y7).wf = true) (fun _ _ _ h => phi67 h) g1
    subst e1
    obtain ⟨f1X, f1hX⟩ := choose_lt (α := Int × Int × Int × Int × Int × Int × Int × Int) (p := fun i X => E1 i = [.int .i64 (X.1), .int .i64 (X.2.1), .int .i64 (X.2.2.1), .int .u32 (X.2.2.2.1), .int .u32 (X.2.2.2.2.1), .int .u32 (X.2.2.2.2.2.1), .int .u32 (X.2.2.2.2.2.2.1), .int .u32 (X.2.2.2.2.2.2.2)] ∧ (Lit.int .i64 (X.1)).wf = true ∧ (Lit.int .i64 (X.2.1)).wf = true ∧ (Lit.int .i64 (X.2.2.1)).wf = true ∧ (Lit.int .u32 (X.2.2.2.1)).wf = true ∧ (Lit.int .u32 (X.2.2.2.2.1)).wf = true ∧ (Lit.int .u32 (X.2.2.2.2.2.1)).wf = true ∧ (Lit.int .u32 (X.2.2.2.2.2.2.1)).wf = true ∧ (Lit.int .u32 (X.2.2.2.2.2.2.2)).wf = true) (fun i hi => by
      obtain ⟨y0, y1, y2, y3, y4, y5, y6, y7, hq⟩ := hP1 i hi
      exact ⟨(y0, y1, y2, y3, y4, y5, y6, y7), hq⟩)
    have f1S : SliceOf w f1a f1l f1c 8 (fun i => [.int .i64 ((f1X i).1), .int .i64 ((f1X i).2.1), .int .i64 ((f1X i).2.2.1), .int .u32 ((f1X i).2.2.2.1), .int .u32 ((f1X i).2.2.2.2.1), .int .u32 ((f1X i).2.2.2.2.2.1), .int .u32 ((f1X i).2.2.2.2.2.2.1), .int .u32 ((f1X i).2.2.2.2.2.2.2)]) := by
      refine ⟨hE1.1, hE1.2.1, fun hp => ?_⟩
      obtain ⟨b, off, ha, hb, hc⟩ := hE1.2.2 hp
      refine ⟨b, off, ha, hb, fun i hi j v hv => hc i hi j v ?_⟩
      rw [(f1hX i hi).1]
      exact hv
    have f1F0 : ∀ i, i < f1l → (Lit.int .i64 ((f1X i).1)).wf = true := fun i hi => (f1hX i hi).2.1
    have f1F1 : ∀ i, i < f1l → (Lit.int .i64 ((f1X i).2.1)).wf = true := fun i hi => (f1hX i hi).2.2.1
    have f1F2 : ∀ i, i < f1l → (Lit.int .i64 ((f1X i).2.2.1)).wf = true := fun i hi => (f1hX i hi).2.2.2.1
    have f1F3 : ∀ i, i < f1l → (Lit.int .u32 ((f1X i).2.2.2.1)).wf = true := fun i hi => (f1hX i hi).2.2.2.2.1
    have f1F4 : ∀ i, i < f1l → (Lit.int .u32 ((f1X i).2.2.2.2.1)).wf = true := fun i hi => (f1hX i hi).2.2.2.2.2.1
    have f1F5 : ∀ i, i < f1l → (Lit.int .u32 ((f1X i).2.2.2.2.2.1)).wf = true := fun i hi => (f1hX i hi).2.2.2.2.2.2.1
    have f1F6 : ∀ i, i < f1l → (Lit.int .u32 ((f1X i).2.2.2.2.2.2.1)).wf = true := fun i hi => (f1hX i hi).2.2.2.2.2.2.2.1
    have f1F7 : ∀ i, i < f1l → (Lit.int .u32 ((f1X i).2.2.2.2.2.2.2)).wf = true := fun i hi => (f1hX i hi).2.2.2.2.2.2.2.2
    exact ⟨f0v0, f1a, f1l, f1c, (fun i => (f1X i).1), (fun i => (f1X i).2.1), (fun i => (f1X i).2.2.1), (fun i => (f1X i).2.2.2.1), (fun i => (f1X i).2.2.2.2.1), (fun i => (f1X i).2.2.2.2.2.1), (fun i => (f1X i).2.2.2.2.2.2.1), (fun i => (f1X i).2.2.2.2.2.2.2), rfl, f0w0_0, f1S, f1F0, f1F1, f1F2, f1F3, f1F4, f1F5, f1F6, f1F7⟩

set_option maxRecDepth 20000 in
theorem phi4 {n : Nat} {cs : List Value} {x : DataW H × List MemPlace} (h : DataW.trod enc Try.prog w base spare held n 4 cs = some x) :
    ∃ (y0 : Bool), cs = [.bool y0] := by
  obtain ⟨y0, rfl, _⟩ := DataW.trod_bool Try.underlying4 h
  exact ⟨y0, rfl⟩

set_option maxRecDepth 20000 in
theorem phi30 {n : Nat} {cs : List Value} {x : DataW H × List MemPlace} (h : DataW.trod enc Try.prog w base spare held n 30 cs = some x) :
    ∃ (y0 : Int) (y1 : Bool) (y2 : Int), cs = [.int .i64 y0, .bool y1, .int .i64 y2] ∧ (Lit.int .i64 y0).wf = true ∧ (Lit.int .i64 y2).wf = true := by
  obtain ⟨xs, m, _, _, hl, hxs, hf⟩ := DataW.trod_struct Try.underlying30 h
  have hl' : cs.length = 3 := hl.trans (by kernel_rfl)
  match cs, hl' with
  | [c0, c1, c2], _ =>
    have h0 := hf 0 _ rfl
    have hx0 : ∃ z, xs[0]? = some z := ⟨_, List.getElem?_eq_getElem (by rw [hxs]; decide)⟩
    obtain ⟨z0, hz0⟩ := hx0
    have g0 : DataW.trod enc Try.prog w base spare held m 3 [c0] = some z0 := h0.trans hz0
    obtain ⟨f0v0, q0, f0w0_0⟩ := phi3 g0
    simp only [List.cons.injEq, and_true] at q0
    subst q0
    have h1 := hf 1 _ rfl
    have hx1 : ∃ z, xs[1]? = some z := ⟨_, List.getElem?_eq_getElem (by rw [hxs]; decide)⟩
    obtain ⟨z1, hz1⟩ := hx1
    have g1 : DataW.trod enc Try.prog w base spare held m 4 [c1] = some z1 := h1.trans hz1
    obtain ⟨f1v0, q1⟩ := phi4 g1
    simp only [List.cons.injEq, and_true] at q1
    subst q1
    have h2 := hf 2 _ rfl
    have hx2 : ∃ z, xs[2]? = some z := ⟨_, List.getElem?_eq_getElem (by rw [hxs]; decide)⟩
    obtain ⟨z2, hz2⟩ := hx2
    have g2 : DataW.trod enc Try.prog w base spare held m 3 [c2] = some z2 := h2.trans hz2
    obtain ⟨f2v0, q2, f2w0_0⟩ := phi3 g2
    simp only [List.cons.injEq, and_true] at q2
    subst q2
    exact ⟨f0v0, f1v0, f2v0, rfl, f0w0_0, f2w0_0⟩
end

set_option maxRecDepth 100000 in
theorem lifted (os : Os) (started : os.Started) (H : Type) (enc : TypeId × Value → H) :
    ReturnsInHanded {} Try.checked os 5 .any (Rows.subflowApartSpec.pre6 enc Try.prog Try.f5 Rows.subflowApartRow.domain false) (Rows.subflowApartSpec.post enc Try.prog Try.f5 false true false false) := by
  refine returnsInHanded_of_change (C := Try.checked) own started (by kernel_rfl) Try.func5
    (ChangeSpec.witness6 (enc := enc) (C := Try.checked) false ⟨#[], #[.agg #[.int .u32 0, .slice none 0 0], .int .u32 0, .slice none 0 0], []⟩ 8 (by kernel_rfl) (by kernel_rfl) (by kernel_rfl) (by kernel_rfl)) ?_
  intro w base args ds gs before hval0 hW hcnd _
  have hval : ∀ (j : Nat) t v, Try.f5.params[j]? = some t → args[j]? = some v → Value.okWide Try.prog w .any base t v := hval0
  have hW' := hW
  obtain ⟨p, q, hA0, hV, rfl, hfz, hnd⟩ := hW
  have hA : DataW.TrodAll enc Try.prog w 0 (fun _ => true) true Try.f5.params.toList args.toList ds p := hA0
  rw [Try.params5] at hA hval
  obtain ⟨v0, vs0, d0, ds0, p0, q0, hargs, rfl, rfl, h0, r0⟩ := trodAll_cons hA
  obtain ⟨v1, vs1, d1, ds1, p1, q1, rfl, rfl, rfl, h1, r1⟩ := trodAll_cons r0
  obtain ⟨v2, vs2, d2, ds2, p2, q2, rfl, rfl, rfl, h2, r2⟩ := trodAll_cons r1
  obtain ⟨rfl, rfl, rfl⟩ := trodAll_nil r2
  obtain rfl : args = #[v0, v1, v2] := by cases args; simp_all
  obtain ⟨rfl, rfl⟩ := trodVars_none hV
  have k0 := h0
  have lt0 : ∀ x ∈ p0, x.block < w.heap.size := by obtain ⟨m, hm⟩ := k0; exact DataW.trod_lt m _ _ _ hm
  obtain ⟨cs0, rfl, _⟩ := okWide_struct Try.underlying47 (hval 0 47 v0 rfl rfl)
  obtain ⟨n0, hn0⟩ := h0
  simp only [Value.cells] at hn0
  obtain ⟨a0x0, a0x1a, a0x1l, a0x1c, a0x1e0, a0x1e1, a0x1e2, a0x1e3, a0x1e4, a0x1e5, a0x1e6, a0x1e7, hcs0, a0x0w0, a0x1S, a0x1F0, a0x1F1, a0x1F2, a0x1F3, a0x1F4, a0x1F5, a0x1F6, a0x1F7⟩ := phi47 hn0
  obtain ⟨l0⟩ := cs0
  simp only at hcs0
  subst hcs0
  have k1 := h1
  have lt1 : ∀ x ∈ p1, x.block < w.heap.size := by obtain ⟨m, hm⟩ := k1; exact DataW.trod_lt m _ _ _ hm
  obtain ⟨a1, rfl, _, _, a1w⟩ := open_int Try.underlying22 (hval 1 22 v1 rfl rfl) h1
  have k2 := h2
  have lt2 : ∀ x ∈ p2, x.block < w.heap.size := by obtain ⟨m, hm⟩ := k2; exact DataW.trod_lt m _ _ _ hm
  obtain ⟨a2a, a2l, a2c, rfl⟩ := okWide_slice Try.underlying23 (hval 2 23 v2 rfl rfl)
  obtain ⟨n2, hn2⟩ := h2
  simp only [Value.cells] at hn2
  obtain ⟨a', l', c', e2, E2, hE2, hP2⟩ := sliceOf_open (size := 3) Try.underlying23 (by kernel_rfl) (by decide) (fun cs => ∃ (y0 : Int) (y1 : Bool) (y2 : Int), cs = [.int .i64 y0, .bool y1, .int .i64 y2] ∧ (Lit.int .i64 y0).wf = true ∧ (Lit.int .i64 y2).wf = true) (fun _ _ _ h => phi30 h) hn2
  injection e2 with e1 e2 e3
  subst e1 e2 e3
  obtain ⟨a2X, a2hX⟩ := choose_lt (α := Int × Bool × Int) (p := fun i X => E2 i = [.int .i64 (X.1), .bool (X.2.1), .int .i64 (X.2.2)] ∧ (Lit.int .i64 (X.1)).wf = true ∧ (Lit.int .i64 (X.2.2)).wf = true) (fun i hi => by
    obtain ⟨y0, y1, y2, hq⟩ := hP2 i hi
    exact ⟨(y0, y1, y2), hq⟩)
  have a2S : SliceOf w a2a a2l a2c 3 (fun i => [.int .i64 ((a2X i).1), .bool ((a2X i).2.1), .int .i64 ((a2X i).2.2)]) := by
    refine ⟨hE2.1, hE2.2.1, fun hp => ?_⟩
    obtain ⟨b, off, ha, hb, hc⟩ := hE2.2.2 hp
    refine ⟨b, off, ha, hb, fun i hi j v hv => hc i hi j v ?_⟩
    rw [(a2hX i hi).1]
    exact hv
  have a2F0 : ∀ i, i < a2l → (Lit.int .i64 ((a2X i).1)).wf = true := fun i hi => (a2hX i hi).2.1
  have a2F1 : ∀ i, i < a2l → (Lit.int .i64 ((a2X i).2.2)).wf = true := fun i hi => (a2hX i hi).2.2
  clear hA0 hval0
  refine (SubflowApart_walk a0x0 a0x1a a0x1l a0x1c a0x1e0 a0x1e1 a0x1e2 a0x1e3 a0x1e4 a0x1e5 a0x1e6 a0x1e7 a1 a2a a2l a2c (fun i => (a2X i).1) (fun i => (a2X i).2.1) (fun i => (a2X i).2.2) w a0x0w0 a0x1S a0x1F0 a0x1F1 a0x1F2 a0x1F3 a0x1F4 a0x1F5 a0x1F6 a0x1F7 a1w a2S a2F0 a2F1).mono fun e W' ⟨he, bel⟩ => ?_
  subst he
  exact ⟨_, rfl, _, _, _, [], _, [], hW', trodAll_mk1 (shut_bool Try.underlying4 _), (trodAll_cons_mk (Below.trod laidOut (by kernel_rfl) (of_decide_eq_true (by kernel_rfl)) k0 bel lt0) (trodAll_cons_mk (Below.trod laidOut (by kernel_rfl) (of_decide_eq_true (by kernel_rfl)) k1 bel lt1) (trodAll_cons_mk (Below.trod laidOut (by kernel_rfl) (of_decide_eq_true (by kernel_rfl)) k2 bel lt2) trodAll_mk0))), rfl, bel.frame _, fun h => by cases h⟩

theorem over : Rows.subflowApartRow.holds Try.pinned (OpenSpec.ofChange Rows.subflowApartSpec) :=
  OpenClaim.holds_of_wide 5 Try.f5 rfl rfl rfl rfl rfl rfl rfl ⟨rfl, rfl, rfl, rfl, rfl⟩ rfl rfl rfl rfl rfl (by kernel_rfl) Try.func5 (by kernel_rfl)
    (of_decide_eq_true (by kernel_rfl)) (by unfold Func.isWrapper; first | (rw [if_pos (by decide +kernel)]; kernel_rfl) | (rw [if_neg (by decide +kernel)]; exact ⟨rfl, rfl⟩))
    (fun os started H enc _ => lifted os started H enc)

/-- The statement. -/
theorem proved : Rows.SubflowApartSaid := over
#print axioms proved
end Go.Proofs.Ytliilcadlijnoaa.subflowApart
