/- SubflowAdverts: for every input the law returns true, and each argument reads behind the call as it read before. No condition. -/
import Derived.Test.YtliilcadlijnoaaRows
import Derived.Test.YtliilcadlijnoaaArgs
import Derived.Test.YtliilcadlijnoaaSubflowAdverts
import Derived.WalkKit
import Derived.ProofKit
import Derived.OpenShut
import Derived.ShutString
import Derived.ChangeOld
import Derived.Below
import Derived.Deep.Slices
namespace Go.Proofs.Ytliilcadlijnoaa.subflowAdverts
open Go.ChangeShapes Go.WideShapes Go.ChangeAt Go.RowKit Go.Deep
open Go.ChangeMaps (open_string shut_string)
set_option linter.unusedVariables false

theorem own : ownKnob Try.prog.godebug = none := by kernel_rfl
theorem laidOut : laidOutB Try.prog = true := by kernel_rfl

section
variable {H : Type} {enc : TypeId × Value → H} {w : World} {base : Nat} {spare : Nat → Bool} {held : Bool}
set_option maxRecDepth 20000 in
theorem phi22 {n : Nat} {cs : List Value} {x : DataW H × List MemPlace} (h : DataW.trod enc Try.prog w base spare held n 22 cs = some x) :
    ∃ (y0 : Int), cs = [.int .u32 y0] ∧ (Lit.int .u32 y0).wf = true := by
  obtain ⟨y0, rfl, _, hw⟩ := DataW.trod_int Try.underlying22 h
  exact ⟨y0, rfl, hw⟩

set_option maxRecDepth 20000 in
theorem phi3 {n : Nat} {cs : List Value} {x : DataW H × List MemPlace} (h : DataW.trod enc Try.prog w base spare held n 3 cs = some x) :
    ∃ (y0 : Int), cs = [.int .i64 y0] ∧ (Lit.int .i64 y0).wf = true := by
  obtain ⟨y0, rfl, _, hw⟩ := DataW.trod_int Try.underlying3 h
  exact ⟨y0, rfl, hw⟩

set_option maxRecDepth 20000 in
theorem phi4 {n : Nat} {cs : List Value} {x : DataW H × List MemPlace} (h : DataW.trod enc Try.prog w base spare held n 4 cs = some x) :
    ∃ (y0 : Bool), cs = [.bool y0] := by
  obtain ⟨y0, rfl, _⟩ := DataW.trod_bool Try.underlying4 h
  exact ⟨y0, rfl⟩

set_option maxRecDepth 20000 in
theorem phi30 {n : Nat} {cs : List Value} {x : DataW H × List MemPlace} (h : DataW.trod enc Try.prog w base spare held n 30 cs = some x) :
    ∃ (y0 : Int) (y1 : Bool) (y2 : Int), cs = [.int .i64 y0, .bool y1, .int .i64 y2] ∧ (Lit.int .i64 y0).wf = true ∧ (Lit.int .i64 y2).wf = true := by
  obtain ⟨xs, m, _, _, hl, hxs, hf⟩ := DataW.trod_struct Try.underlying30 h
  have hl' : cs.length = 3 := hl.trans (by kernel_rfl)
  match cs, hl' with
  | [c0, c1, c2], _ =>
    have h0 := hf 0 _ rfl
    have hx0 : ∃ z, xs[0]? = some z := ⟨_, List.getElem?_eq_getElem (by rw [hxs]; decide)⟩
    obtain ⟨z0, hz0⟩ := hx0
    have g0 : DataW.trod enc Try.prog w base spare held m 3 [c0] = some z0 := h0.trans hz0
    obtain ⟨f0v0, q0, f0w0_0⟩ := phi3 g0
    simp only [List.cons.injEq, and_true] at q0
    subst q0
    have h1 := hf 1 _ rfl
    have hx1 : ∃ z, xs[1]? = some z := ⟨_, List.getElem?_eq_getElem (by rw [hxs]; decide)⟩
    obtain ⟨z1, hz1⟩ := hx1
    have g1 : DataW.trod enc Try.prog w base spare held m 4 [c1] = some z1 := h1.trans hz1
    obtain ⟨f1v0, q1⟩ := phi4 g1
    simp only [List.cons.injEq, and_true] at q1
    subst q1
    have h2 := hf 2 _ rfl
    have hx2 : ∃ z, xs[2]? = some z := ⟨_, List.getElem?_eq_getElem (by rw [hxs]; decide)⟩
    obtain ⟨z2, hz2⟩ := hx2
    have g2 : DataW.trod enc Try.prog w base spare held m 3 [c2] = some z2 := h2.trans hz2
    obtain ⟨f2v0, q2, f2w0_0⟩ := phi3 g2
    simp only [List.cons.injEq, and_true] at q2
    subst q2
    exact ⟨f0v0, f1v0, f2v0, rfl, f0w0_0, f2w0_0⟩
end

set_option maxRecDepth 100000 in
theorem lifted (os : Os) (started : os.Started) (H : Type) (enc : TypeId × Value → H) :
    ReturnsInHanded {} Try.checked os 3 .any (Rows.subflowAdvertsSpec.pre6 enc Try.prog Try.f3 Rows.subflowAdvertsRow.domain false) (Rows.subflowAdvertsSpec.post enc Try.prog Try.f3 false true false false) := by
  refine returnsInHanded_of_change (C := Try.checked) own started (by kernel_rfl) Try.func3
    (ChangeSpec.witness6 (enc := enc) (C := Try.checked) false ⟨#[], #[.int .u32 0, .slice none 0 0], []⟩ 8 (by kernel_rfl) (by kernel_rfl) (by kernel_rfl) (by kernel_rfl)) ?_
  intro w base args ds gs before hval0 hW hcnd _
  have hval : ∀ (j : Nat) t v, Try.f3.params[j]? = some t → args[j]? = some v → Value.okWide Try.prog w .any base t v := hval0
  have hW' := hW
  obtain ⟨p, q, hA0, hV, rfl, hfz, hnd⟩ := hW
  have hA : DataW.TrodAll enc Try.prog w 0 (fun _ => true) true Try.f3.params.toList args.toList ds p := hA0
  rw [Try.params3] at hA hval
  obtain ⟨v0, vs0, d0, ds0, p0, q0, hargs, rfl, rfl, h0, r0⟩ := trodAll_cons hA
  obtain ⟨v1, vs1, d1, ds1, p1, q1, rfl, rfl, rfl, h1, r1⟩ := trodAll_cons r0
  obtain ⟨rfl, rfl, rfl⟩ := trodAll_nil r1
  obtain rfl : args = #[v0, v1] := by cases args; simp_all
  obtain ⟨rfl, rfl⟩ := trodVars_none hV
  have k0 := h0
  have lt0 : ∀ x ∈ p0, x.block < w.heap.size := by obtain ⟨m, hm⟩ := k0; exact DataW.trod_lt m _ _ _ hm
  obtain ⟨a0, rfl, _, _, a0w⟩ := open_int Try.underlying22 (hval 0 22 v0 rfl rfl) h0
  have k1 := h1
  have lt1 : ∀ x ∈ p1, x.block < w.heap.size := by obtain ⟨m, hm⟩ := k1; exact DataW.trod_lt m _ _ _ hm
  obtain ⟨a1a, a1l, a1c, rfl⟩ := okWide_slice Try.underlying23 (hval 1 23 v1 rfl rfl)
  obtain ⟨n1, hn1⟩ := h1
  simp only [Value.cells] at hn1
  obtain ⟨a', l', c', e1, E1, hE1, hP1⟩ := sliceOf_open (size := 3) Try.underlying23 (by kernel_rfl) (by decide) (fun cs => ∃ (y0 : Int) (y1 : Bool) (y2 : Int), cs = [.int .i64 y0, .bool y1, .int .i64 y2] ∧ (Lit.int .i64 y0).wf = true ∧ (Lit.int .i64 y2).wf = true) (fun _ _ _ h => phi30 h) hn1
  injection e1 with e1 e2 e3
  subst e1 e2 e3
  obtain ⟨a1X, a1hX⟩ := choose_lt (α := Int × Bool × Int) (p := fun i X => E1 i = [.int .i64 (X.1), .bool (X.2.1), .int .i64 (X.2.2)] ∧ (Lit.int .i64 (X.1)).wf = true ∧ (Lit.int .i64 (X.2.2)).wf = true) (fun i hi => by
    obtain ⟨y0, y1, y2, hq⟩ := hP1 i hi
    exact ⟨(y0, y1, y2), hq⟩)
  have a1S : SliceOf w a1a a1l a1c 3 (fun i => [.int .i64 ((a1X i).1), .bool ((a1X i).2.1), .int .i64 ((a1X i).2.2)]) := by
    refine ⟨hE1.1, hE1.2.1, fun hp => ?_⟩
    obtain ⟨b, off, ha, hb, hc⟩ := hE1.2.2 hp
    refine ⟨b, off, ha, hb, fun i hi j v hv => hc i hi j v ?_⟩
    rw [(a1hX i hi).1]
    exact hv
  have a1F0 : ∀ i, i < a1l → (Lit.int .i64 ((a1X i).1)).wf = true := fun i hi => (a1hX i hi).2.1
  have a1F1 : ∀ i, i < a1l → (Lit.int .i64 ((a1X i).2.2)).wf = true := fun i hi => (a1hX i hi).2.2
  clear hA0 hval0
  refine (SubflowAdverts_walk a0 a1a a1l a1c (fun i => (a1X i).1) (fun i => (a1X i).2.1) (fun i => (a1X i).2.2) w a0w a1S a1F0 a1F1).mono fun e W' ⟨he, bel⟩ => ?_
  subst he
  exact ⟨_, rfl, _, _, _, [], _, [], hW', trodAll_mk1 (shut_bool Try.underlying4 _), (trodAll_cons_mk (Below.trod laidOut (by kernel_rfl) (of_decide_eq_true (by kernel_rfl)) k0 bel lt0) (trodAll_cons_mk (Below.trod laidOut (by kernel_rfl) (of_decide_eq_true (by kernel_rfl)) k1 bel lt1) trodAll_mk0)), rfl, bel.frame _, fun h => by cases h⟩

theorem over : Rows.subflowAdvertsRow.holds Try.pinned (OpenSpec.ofChange Rows.subflowAdvertsSpec) :=
  OpenClaim.holds_of_wide 3 Try.f3 rfl rfl rfl rfl rfl rfl rfl ⟨rfl, rfl, rfl, rfl, rfl⟩ rfl rfl rfl rfl rfl (by kernel_rfl) Try.func3 (by kernel_rfl)
    (of_decide_eq_true (by kernel_rfl)) (by unfold Func.isWrapper; first | (rw [if_pos (by decide +kernel)]; kernel_rfl) | (rw [if_neg (by decide +kernel)]; exact ⟨rfl, rfl⟩))
    (fun os started H enc _ => lifted os started H enc)

/-- The statement. -/
theorem proved : Rows.SubflowAdvertsSaid := over
#print axioms proved
end Go.Proofs.Ytliilcadlijnoaa.subflowAdverts
