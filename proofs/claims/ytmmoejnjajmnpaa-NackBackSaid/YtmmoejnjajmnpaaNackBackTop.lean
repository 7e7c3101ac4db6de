/- NackBack: for every input the law returns true, and each argument reads behind the call as it read before. No condition. -/
import Derived.Test.YtmmoejnjajmnpaaRows
import Derived.Test.YtmmoejnjajmnpaaArgs
import Derived.Test.YtmmoejnjajmnpaaNackBack
import Derived.WalkKit
import Derived.ProofKit
import Derived.OpenShut
import Derived.ShutString
import Derived.ChangeOld
import Derived.Below
import Derived.Deep.Slices
namespace Go.Proofs.Ytmmoejnjajmnpaa.nackBack
open Go.ChangeShapes Go.WideShapes Go.ChangeAt Go.RowKit Go.Deep
open Go.ChangeMaps (open_string shut_string)
set_option linter.unusedVariables false

theorem own : ownKnob Try.prog.godebug = none := by kernel_rfl
theorem laidOut : laidOutB Try.prog = true := by kernel_rfl

section
variable {H : Type} {enc : TypeId × Value → H} {w : World} {base : Nat} {spare : Nat → Bool} {held : Bool}
set_option maxRecDepth 20000 in
theorem phi34 {n : Nat} {cs : List Value} {x : DataW H × List MemPlace} (h : DataW.trod enc Try.prog w base spare held n 34 cs = some x) :
    ∃ (y0 : Int), cs = [.int .u32 y0] ∧ (Lit.int .u32 y0).wf = true := by
  obtain ⟨y0, rfl, _, hw⟩ := DataW.trod_int Try.underlying34 h
  exact ⟨y0, rfl, hw⟩

set_option maxRecDepth 20000 in
theorem phi28 {n : Nat} {cs : List Value} {x : DataW H × List MemPlace} (h : DataW.trod enc Try.prog w base spare held n 28 cs = some x) :
    ∃ (y0 : Int), cs = [.int .u16 y0] ∧ (Lit.int .u16 y0).wf = true := by
  obtain ⟨y0, rfl, _, hw⟩ := DataW.trod_int Try.underlying28 h
  exact ⟨y0, rfl, hw⟩

set_option maxRecDepth 20000 in
theorem phi30 {n : Nat} {cs : List Value} {x : DataW H × List MemPlace} (h : DataW.trod enc Try.prog w base spare held n 30 cs = some x) :
    ∃ (y0 : Int) (y1 : Int), cs = [.int .u16 y0, .int .u16 y1] ∧ (Lit.int .u16 y0).wf = true ∧ (Lit.int .u16 y1).wf = true := by
  obtain ⟨xs, m, _, _, hl, hxs, hf⟩ := DataW.trod_struct Try.underlying30 h
  have hl' : cs.length = 2 := hl.trans (by kernel_rfl)
  match cs, hl' with
  | [c0, c1], _ =>
    have h0 := hf 0 _ rfl
    have hx0 : ∃ z, xs[0]? = some z := ⟨_, List.getElem?_eq_getElem (by rw [hxs]; decide)⟩
    obtain ⟨z0, hz0⟩ := hx0
    have g0 : DataW.trod enc Try.prog w base spare held m 28 [c0] = some z0 := h0.trans hz0
    obtain ⟨f0v0, q0, f0w0_0⟩ := phi28 g0
    simp only [List.cons.injEq, and_true] at q0
    subst q0
    have h1 := hf 1 _ rfl
    have hx1 : ∃ z, xs[1]? = some z := ⟨_, List.getElem?_eq_getElem (by rw [hxs]; decide)⟩
    obtain ⟨z1, hz1⟩ := hx1
    have g1 : DataW.trod enc Try.prog w base spare held m 28 [c1] = some z1 := h1.trans hz1
    obtain ⟨f1v0, q1, f1w0_0⟩ := phi28 g1
    simp only [List.cons.injEq, and_true] at q1
    subst q1
    exact ⟨f0v0, f1v0, rfl, f0w0_0, f1w0_0⟩

set_option maxRecDepth 20000 in
theorem phi36 {n : Nat} {cs : List Value} {x : DataW H × List MemPlace} (h : DataW.trod enc Try.prog w base spare held n 36 cs = some x) :
    ∃ (y0 : Int) (y1 : Int) (y2 : Option Addr) (y3 : Nat) (y4 : Nat) (y5 : Nat → Int) (y6 : Nat → Int), cs = [.int .u32 y0, .int .u32 y1, .slice y2 y3 y4] ∧ (Lit.int .u32 y0).wf = true ∧ (Lit.int .u32 y1).wf = true ∧ SliceOf w y2 y3 y4 2 (fun j => [.int .u16 (y5 j), .int .u16 (y6 j)]) ∧ (∀ j, j < y3 → (Lit.int .u16 (y5 j)).wf = true) ∧ (∀ j, j < y3 → (Lit.int .u16 (y6 j)).wf = true) := by
  obtain ⟨xs, m, _, _, hl, hxs, hf⟩ := DataW.trod_struct Try.underlying36 h
  have hl' : cs.length = 3 := hl.trans (by kernel_rfl)
  match cs, hl' with
  | [c0, c1, c2], _ =>
    have h0 := hf 0 _ rfl
    have hx0 : ∃ z, xs[0]? = some z := ⟨_, List.getElem?_eq_getElem (by rw [hxs]; decide)⟩
    obtain ⟨z0, hz0⟩ := hx0
    have g0 : DataW.trod enc Try.prog w base spare held m 34 [c0] = some z0 := h0.trans hz0
    obtain ⟨f0v0, q0, f0w0_0⟩ := phi34 g0
    simp only [List.cons.injEq, and_true] at q0
    subst q0
    have h1 := hf 1 _ rfl
    have hx1 : ∃ z, xs[1]? = some z := ⟨_, List.getElem?_eq_getElem (by rw [hxs]; decide)⟩
    obtain ⟨z1, hz1⟩ := hx1
    have g1 : DataW.trod enc Try.prog w base spare held m 34 [c1] = some z1 := h1.trans hz1
    obtain ⟨f1v0, q1, f1w0_0⟩ := phi34 g1
    simp only [List.cons.injEq, and_true] at q1
    subst q1
    have h2 := hf 2 _ rfl
    have hx2 : ∃ z, xs[2]? = some z := ⟨_, List.getElem?_eq_getElem (by rw [hxs]; decide)⟩
    obtain ⟨z2, hz2⟩ := hx2
    have g2 : DataW.trod enc Try.prog w base spare held m 26 [c2] = some z2 := h2.trans hz2
    obtain ⟨f2a, f2l, f2c, e2, E2, hE2, hP2⟩ := sliceOf_open (size := 2) Try.underlying26 (by kernel_rfl) (by decide) (fun cs => ∃ (y0 : Int) (y1 : Int), cs = [.int .u16 y0, .int .u16 y1] ∧ (Lit.int .u16 y0).wf = true ∧ (Lit.int .u16 y1).wf = true) (fun _ _ _ h => phi30 h) g2
    subst e2
    obtain ⟨f2X, f2hX⟩ := choose_lt (α := Int × Int) (p := fun i X => E2 i = [.int .u16 (X.1), .int .u16 (X.2)] ∧ (Lit.int .u16 (X.1)).wf = true ∧ (Lit.int .u16 (X.2)).wf = true) (fun i hi => by
      obtain ⟨y0, y1, hq⟩ := hP2 i hi
      exact ⟨(y0, y1), hq⟩)
    have f2S : SliceOf w f2a f2l f2c 2 (fun i => [.int .u16 ((f2X i).1), .int .u16 ((f2X i).2)]) := by
      refine ⟨hE2.1, hE2.2.1, fun hp => ?_⟩
      obtain ⟨b, off, ha, hb, hc⟩ := hE2.2.2 hp
      refine ⟨b, off, ha, hb, fun i hi j v hv => hc i hi j v ?_⟩
      rw [(f2hX i hi).1]
      exact hv
    have f2F0 : ∀ i, i < f2l → (Lit.int .u16 ((f2X i).1)).wf = true := fun i hi => (f2hX i hi).2.1
    have f2F1 : ∀ i, i < f2l → (Lit.int .u16 ((f2X i).2)).wf = true := fun i hi => (f2hX i hi).2.2
    exact ⟨f0v0, f1v0, f2a, f2l, f2c, (fun i => (f2X i).1), (fun i => (f2X i).2), rfl, f0w0_0, f1w0_0, f2S, f2F0, f2F1⟩
end

set_option maxRecDepth 100000 in
theorem lifted (os : Os) (started : os.Started) (H : Type) (enc : TypeId × Value → H) :
    ReturnsInHanded {} Try.checked os 6 .any (Rows.nackBackSpec.pre6 enc Try.prog Try.f6 Rows.nackBackRow.domain false) (Rows.nackBackSpec.post enc Try.prog Try.f6 false true false false) := by
  refine returnsInHanded_of_change (C := Try.checked) own started (by kernel_rfl) Try.func6
    (ChangeSpec.witness6 (enc := enc) (C := Try.checked) false ⟨#[], #[.agg #[.int .u32 0, .int .u32 0, .slice none 0 0]], []⟩ 8 (by kernel_rfl) (by kernel_rfl) (by kernel_rfl) (by kernel_rfl)) ?_
  intro w base args ds gs before hval0 hW hcnd _
  have hval : ∀ (j : Nat) t v, Try.f6.params[j]? = some t → args[j]? = some v → Value.okWide Try.prog w .any base t v := hval0
  have hW' := hW
  obtain ⟨p, q, hA0, hV, rfl, hfz, hnd⟩ := hW
  have hA : DataW.TrodAll enc Try.prog w 0 (fun _ => true) true Try.f6.params.toList args.toList ds p := hA0
  rw [Try.params6] at hA hval
  obtain ⟨v0, vs0, d0, ds0, p0, q0, hargs, rfl, rfl, h0, r0⟩ := trodAll_cons hA
  obtain ⟨rfl, rfl, rfl⟩ := trodAll_nil r0
  obtain rfl : args = #[v0] := by cases args; simp_all
  obtain ⟨rfl, rfl⟩ := trodVars_none hV
  have k0 := h0
  have lt0 : ∀ x ∈ p0, x.block < w.heap.size := by obtain ⟨m, hm⟩ := k0; exact DataW.trod_lt m _ _ _ hm
  obtain ⟨cs0, rfl, _⟩ := okWide_struct Try.underlying36 (hval 0 36 v0 rfl rfl)
  obtain ⟨n0, hn0⟩ := h0
  simp only [Value.cells] at hn0
  obtain ⟨a0x0, a0x1, a0x2a, a0x2l, a0x2c, a0x2e0, a0x2e1, hcs0, a0x0w0, a0x1w0, a0x2S, a0x2F0, a0x2F1⟩ := phi36 hn0
  obtain ⟨l0⟩ := cs0
  simp only at hcs0
  subst hcs0
  clear hA0 hval0
  refine (NackBack_walk a0x0 a0x1 a0x2a a0x2l a0x2c a0x2e0 a0x2e1 w a0x0w0 a0x1w0 a0x2S a0x2F0 a0x2F1).mono fun e W' ⟨he, bel⟩ => ?_
  subst he
  exact ⟨_, rfl, _, _, _, [], _, [], hW', trodAll_mk1 (shut_bool Try.underlying4 _), (trodAll_cons_mk (Below.trod laidOut (by kernel_rfl) (of_decide_eq_true (by kernel_rfl)) k0 bel lt0) trodAll_mk0), rfl, bel.frame _, fun h => by cases h⟩

theorem over : Rows.nackBackRow.holds Try.pinned (OpenSpec.ofChange Rows.nackBackSpec) :=
  OpenClaim.holds_of_wide 6 Try.f6 rfl rfl rfl rfl rfl rfl rfl ⟨rfl, rfl, rfl, rfl, rfl⟩ rfl rfl rfl rfl rfl (by kernel_rfl) Try.func6 (by kernel_rfl)
    (of_decide_eq_true (by kernel_rfl)) (by unfold Func.isWrapper; first | (rw [if_pos (by decide +kernel)]; kernel_rfl) | (rw [if_neg (by decide +kernel)]; exact ⟨rfl, rfl⟩))
    (fun os started H enc _ => lifted os started H enc)

/-- The statement. -/
theorem proved : Rows.NackBackSaid := over
#print axioms proved
end Go.Proofs.Ytmmoejnjajmnpaa.nackBack
