/- SubflowReads: for every input the law returns true, and each argument reads behind the call as it read before. No condition. -/
import Derived.Test.YtliilcadlijnoaaRows
import Derived.Test.YtliilcadlijnoaaArgs
import Derived.Test.YtliilcadlijnoaaSubflowReads
import Derived.WalkKit
import Derived.ProofKit
import Derived.OpenShut
import Derived.ShutString
import Derived.ChangeOld
import Derived.Below
import Derived.Deep.Slices
namespace Go.Proofs.Ytliilcadlijnoaa.subflowReads
open Go.ChangeShapes Go.WideShapes Go.ChangeAt Go.RowKit Go.Deep
open Go.ChangeMaps (open_string shut_string)
set_option linter.unusedVariables false

theorem own : ownKnob Try.prog.godebug = none := by kernel_rfl
theorem laidOut : laidOutB Try.prog = true := by kernel_rfl

section
variable {H : Type} {enc : TypeId × Value → H} {w : World} {base : Nat} {spare : Nat → Bool} {held : Bool}
set_option maxRecDepth 20000 in
theorem phi3 {n : Nat} {cs : List Value} {x : DataW H × List MemPlace} (h : DataW.trod enc Try.prog w base spare held n 3 cs = some x) :
    ∃ (y0 : Int), cs = [.int .i64 y0] ∧ (Lit.int .i64 y0).wf = true := by
  obtain ⟨y0, rfl, _, hw⟩ := DataW.trod_int Try.underlying3 h
  exact ⟨y0, rfl, hw⟩

set_option maxRecDepth 20000 in
theorem phi9 {n : Nat} {cs : List Value} {x : DataW H × List MemPlace} (h : DataW.trod enc Try.prog w base spare held n 9 cs = some x) :
    ∃ (y0 : ByteArray), cs = [.string y0] ∧ y0.size ≤ maxLen := by
  obtain ⟨y0, rfl, _, hw⟩ := DataW.trod_string Try.underlying9 h
  exact ⟨y0, rfl, hw⟩

set_option maxRecDepth 20000 in
theorem phi35 {n : Nat} {cs : List Value} {x : DataW H × List MemPlace} (h : DataW.trod enc Try.prog w base spare held n 35 cs = some x) :
    ∃ (y0 : Int) (y1 : Int) (y2 : ByteArray), cs = [.int .i64 y0, .int .i64 y1, .string y2] ∧ (Lit.int .i64 y0).wf = true ∧ (Lit.int .i64 y1).wf = true ∧ y2.size ≤ maxLen := by
  obtain ⟨xs, m, _, _, hl, hxs, hf⟩ := DataW.trod_struct Try.underlying35 h
  have hl' : cs.length = 3 := hl.trans (by kernel_rfl)
  match cs, hl' with
  | [c0, c1, c2], _ =>
    have h0 := hf 0 _ rfl
    have hx0 : ∃ z, xs[0]? = some z := ⟨_, List.getElem?_eq_getElem (by rw [hxs]; decide)⟩
    obtain ⟨z0, hz0⟩ := hx0
    have g0 : DataW.trod enc Try.prog w base spare held m 3 [c0] = some z0 := h0.trans hz0
    obtain ⟨f0v0, q0, f0w0_0⟩ := phi3 g0
    simp only [List.cons.injEq, and_true] at q0
    subst q0
    have h1 := hf 1 _ rfl
    have hx1 : ∃ z, xs[1]? = some z := ⟨_, List.getElem?_eq_getElem (by rw [hxs]; decide)⟩
    obtain ⟨z1, hz1⟩ := hx1
    have g1 : DataW.trod enc Try.prog w base spare held m 3 [c1] = some z1 := h1.trans hz1
    obtain ⟨f1v0, q1, f1w0_0⟩ := phi3 g1
    simp only [List.cons.injEq, and_true] at q1
    subst q1
    have h2 := hf 2 _ rfl
    have hx2 : ∃ z, xs[2]? = some z := ⟨_, List.getElem?_eq_getElem (by rw [hxs]; decide)⟩
    obtain ⟨z2, hz2⟩ := hx2
    have g2 : DataW.trod enc Try.prog w base spare held m 9 [c2] = some z2 := h2.trans hz2
    obtain ⟨f2v0, q2, f2w0_0⟩ := phi9 g2
    simp only [List.cons.injEq, and_true] at q2
    subst q2
    exact ⟨f0v0, f1v0, f2v0, rfl, f0w0_0, f1w0_0, f2w0_0⟩
end

set_option maxRecDepth 100000 in
theorem lifted (os : Os) (started : os.Started) (H : Type) (enc : TypeId × Value → H) :
    ReturnsInHanded {} Try.checked os 4 .any (Rows.subflowReadsSpec.pre6 enc Try.prog Try.f4 Rows.subflowReadsRow.domain false) (Rows.subflowReadsSpec.post enc Try.prog Try.f4 false true false false) := by
  refine returnsInHanded_of_change (C := Try.checked) own started (by kernel_rfl) Try.func4
    (ChangeSpec.witness6 (enc := enc) (C := Try.checked) false ⟨#[], #[.agg #[.int .i64 0, .int .i64 0, .string ByteArray.empty]], []⟩ 8 (by kernel_rfl) (by kernel_rfl) (by kernel_rfl) (by kernel_rfl)) ?_
  intro w base args ds gs before hval0 hW hcnd _
  have hval : ∀ (j : Nat) t v, Try.f4.params[j]? = some t → args[j]? = some v → Value.okWide Try.prog w .any base t v := hval0
  have hW' := hW
  obtain ⟨p, q, hA0, hV, rfl, hfz, hnd⟩ := hW
  have hA : DataW.TrodAll enc Try.prog w 0 (fun _ => true) true Try.f4.params.toList args.toList ds p := hA0
  rw [Try.params4] at hA hval
  obtain ⟨v0, vs0, d0, ds0, p0, q0, hargs, rfl, rfl, h0, r0⟩ := trodAll_cons hA
  obtain ⟨rfl, rfl, rfl⟩ := trodAll_nil r0
  obtain rfl : args = #[v0] := by cases args; simp_all
  obtain ⟨rfl, rfl⟩ := trodVars_none hV
  have k0 := h0
  have lt0 : ∀ x ∈ p0, x.block < w.heap.size := by obtain ⟨m, hm⟩ := k0; exact DataW.trod_lt m _ _ _ hm
  obtain ⟨cs0, rfl, _⟩ := okWide_struct Try.underlying35 (hval 0 35 v0 rfl rfl)
  obtain ⟨n0, hn0⟩ := h0
  simp only [Value.cells] at hn0
  obtain ⟨a0x0, a0x1, a0x2, hcs0, a0x0w0, a0x1w0, a0x2w0⟩ := phi35 hn0
  obtain ⟨l0⟩ := cs0
  simp only at hcs0
  subst hcs0
  clear hA0 hval0
  refine (SubflowReads_walk a0x0 a0x1 a0x2 w a0x0w0 a0x1w0 a0x2w0).mono fun e W' ⟨he, bel⟩ => ?_
  subst he
  exact ⟨_, rfl, _, _, _, [], _, [], hW', trodAll_mk1 (shut_bool Try.underlying4 _), (trodAll_cons_mk (Below.trod laidOut (by kernel_rfl) (of_decide_eq_true (by kernel_rfl)) k0 bel lt0) trodAll_mk0), rfl, bel.frame _, fun h => by cases h⟩

theorem over : Rows.subflowReadsRow.holds Try.pinned (OpenSpec.ofChange Rows.subflowReadsSpec) :=
  OpenClaim.holds_of_wide 4 Try.f4 rfl rfl rfl rfl rfl rfl rfl ⟨rfl, rfl, rfl, rfl, rfl⟩ rfl rfl rfl rfl rfl (by kernel_rfl) Try.func4 (by kernel_rfl)
    (of_decide_eq_true (by kernel_rfl)) (by unfold Func.isWrapper; first | (rw [if_pos (by decide +kernel)]; kernel_rfl) | (rw [if_neg (by decide +kernel)]; exact ⟨rfl, rfl⟩))
    (fun os started H enc _ => lifted os started H enc)

/-- The statement. -/
theorem proved : Rows.SubflowReadsSaid := over
#print axioms proved
end Go.Proofs.Ytliilcadlijnoaa.subflowReads
