/- NackPairs: for every input the law returns true, and each argument reads behind the call as it read before. No condition. -/
import Derived.Test.YtmmoejnjajmnpaaRows
import Derived.Test.YtmmoejnjajmnpaaArgs
import Derived.Test.YtmmoejnjajmnpaaNackPairs
import Derived.WalkKit
import Derived.ProofKit
import Derived.OpenShut
import Derived.ShutString
import Derived.ChangeOld
import Derived.Below
import Derived.Deep.Slices
namespace Go.Proofs.Ytmmoejnjajmnpaa.nackPairs
open Go.ChangeShapes Go.WideShapes Go.ChangeAt Go.RowKit Go.Deep
open Go.ChangeMaps (open_string shut_string)
set_option linter.unusedVariables false

theorem own : ownKnob Try.prog.godebug = none := by kernel_rfl
theorem laidOut : laidOutB Try.prog = true := by kernel_rfl

section
variable {H : Type} {enc : TypeId × Value → H} {w : World} {base : Nat} {spare : Nat → Bool} {held : Bool}
set_option maxRecDepth 20000 in
theorem phi28 {n : Nat} {cs : List Value} {x : DataW H × List MemPlace} (h : DataW.trod enc Try.prog w base spare held n 28 cs = some x) :
    ∃ (y0 : Int), cs = [.int .u16 y0] ∧ (Lit.int .u16 y0).wf = true := by
  obtain ⟨y0, rfl, _, hw⟩ := DataW.trod_int Try.underlying28 h
  exact ⟨y0, rfl, hw⟩
end

set_option maxRecDepth 100000 in
theorem lifted (os : Os) (started : os.Started) (H : Type) (enc : TypeId × Value → H) :
    ReturnsInHanded {} Try.checked os 5 .any (Rows.nackPairsSpec.pre6 enc Try.prog Try.f5 Rows.nackPairsRow.domain false) (Rows.nackPairsSpec.post enc Try.prog Try.f5 false true false false) := by
  refine returnsInHanded_of_change (C := Try.checked) own started (by kernel_rfl) Try.func5
    (ChangeSpec.witness6 (enc := enc) (C := Try.checked) false ⟨#[], #[.slice none 0 0], []⟩ 8 (by kernel_rfl) (by kernel_rfl) (by kernel_rfl) (by kernel_rfl)) ?_
  intro w base args ds gs before hval0 hW hcnd _
  have hval : ∀ (j : Nat) t v, Try.f5.params[j]? = some t → args[j]? = some v → Value.okWide Try.prog w .any base t v := hval0
  have hW' := hW
  obtain ⟨p, q, hA0, hV, rfl, hfz, hnd⟩ := hW
  have hA : DataW.TrodAll enc Try.prog w 0 (fun _ => true) true Try.f5.params.toList args.toList ds p := hA0
  rw [Try.params5] at hA hval
  obtain ⟨v0, vs0, d0, ds0, p0, q0, hargs, rfl, rfl, h0, r0⟩ := trodAll_cons hA
  obtain ⟨rfl, rfl, rfl⟩ := trodAll_nil r0
  obtain rfl : args = #[v0] := by cases args; simp_all
  obtain ⟨rfl, rfl⟩ := trodVars_none hV
  have k0 := h0
  have lt0 : ∀ x ∈ p0, x.block < w.heap.size := by obtain ⟨m, hm⟩ := k0; exact DataW.trod_lt m _ _ _ hm
  obtain ⟨a0a, a0l, a0c, rfl⟩ := okWide_slice Try.underlying22 (hval 0 22 v0 rfl rfl)
  obtain ⟨n0, hn0⟩ := h0
  simp only [Value.cells] at hn0
  obtain ⟨a', l', c', e0, E0, hE0, hP0⟩ := sliceOf_open (size := 1) Try.underlying22 (by kernel_rfl) (by decide) (fun cs => ∃ (y0 : Int), cs = [.int .u16 y0] ∧ (Lit.int .u16 y0).wf = true) (fun _ _ _ h => phi28 h) hn0
  injection e0 with e1 e2 e3
  subst e1 e2 e3
  obtain ⟨a0X, a0hX⟩ := choose_lt (α := Int) (p := fun i X => E0 i = [.int .u16 (X)] ∧ (Lit.int .u16 (X)).wf = true) (fun i hi => by
    obtain ⟨y0, hq⟩ := hP0 i hi
    exact ⟨y0, hq⟩)
  have a0S : SliceOf w a0a a0l a0c 1 (fun i => [.int .u16 (a0X i)]) := by
    refine ⟨hE0.1, hE0.2.1, fun hp => ?_⟩
    obtain ⟨b, off, ha, hb, hc⟩ := hE0.2.2 hp
    refine ⟨b, off, ha, hb, fun i hi j v hv => hc i hi j v ?_⟩
    rw [(a0hX i hi).1]
    exact hv
  have a0F0 : ∀ i, i < a0l → (Lit.int .u16 (a0X i)).wf = true := fun i hi => (a0hX i hi).2
  clear hA0 hval0
  refine (NackPairs_walk a0a a0l a0c (fun i => (a0X i)) w a0S a0F0).mono fun e W' ⟨he, bel⟩ => ?_
  subst he
  exact ⟨_, rfl, _, _, _, [], _, [], hW', trodAll_mk1 (shut_bool Try.underlying4 _), (trodAll_cons_mk (Below.trod laidOut (by kernel_rfl) (of_decide_eq_true (by kernel_rfl)) k0 bel lt0) trodAll_mk0), rfl, bel.frame _, fun h => by cases h⟩

theorem over : Rows.nackPairsRow.holds Try.pinned (OpenSpec.ofChange Rows.nackPairsSpec) :=
  OpenClaim.holds_of_wide 5 Try.f5 rfl rfl rfl rfl rfl rfl rfl ⟨rfl, rfl, rfl, rfl, rfl⟩ rfl rfl rfl rfl rfl (by kernel_rfl) Try.func5 (by kernel_rfl)
    (of_decide_eq_true (by kernel_rfl)) (by unfold Func.isWrapper; first | (rw [if_pos (by decide +kernel)]; kernel_rfl) | (rw [if_neg (by decide +kernel)]; exact ⟨rfl, rfl⟩))
    (fun os started H enc _ => lifted os started H enc)

/-- The statement. -/
theorem proved : Rows.NackPairsSaid := over
#print axioms proved
end Go.Proofs.Ytmmoejnjajmnpaa.nackPairs
