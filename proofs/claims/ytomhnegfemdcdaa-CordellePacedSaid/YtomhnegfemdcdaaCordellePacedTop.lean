/- CordellePaced: for every input the law returns true, and each argument reads behind the call as it read before. No condition. -/
import Derived.Test.YtomhnegfemdcdaaRows
import Derived.Test.YtomhnegfemdcdaaArgs
import Derived.Test.YtomhnegfemdcdaaCordellePaced
import Derived.WalkKit
import Derived.ProofKit
import Derived.OpenShut
import Derived.ShutString
import Derived.ChangeOld
import Derived.Below
import Derived.Deep.Slices
namespace Go.Proofs.Ytomhnegfemdcdaa.cordellePaced
open Go.ChangeShapes Go.WideShapes Go.ChangeAt Go.RowKit Go.Deep
open Go.ChangeMaps (open_string shut_string)
set_option linter.unusedVariables false

theorem own : ownKnob Try.prog.godebug = none := by kernel_rfl
theorem laidOut : laidOutB Try.prog = true := by kernel_rfl

section
variable {H : Type} {enc : TypeId × Value → H} {w : World} {base : Nat} {spare : Nat → Bool} {held : Bool}
theorem phi9 {n : Nat} {cs : List Value} {x : DataW H × List MemPlace} (h : DataW.trod enc Try.prog w base spare held n 9 cs = some x) :
    ∃ (y0 : ByteArray), cs = [.string y0] ∧ y0.size ≤ maxLen := by
  obtain ⟨y0, rfl, _, hw⟩ := DataW.trod_string Try.underlying9 h
  exact ⟨y0, rfl, hw⟩

theorem phi3 {n : Nat} {cs : List Value} {x : DataW H × List MemPlace} (h : DataW.trod enc Try.prog w base spare held n 3 cs = some x) :
    ∃ (y0 : Int), cs = [.int .i64 y0] ∧ (Lit.int .i64 y0).wf = true := by
  obtain ⟨y0, rfl, _, hw⟩ := DataW.trod_int Try.underlying3 h
  exact ⟨y0, rfl, hw⟩
end

set_option maxRecDepth 100000 in
theorem lifted (os : Os) (started : os.Started) (H : Type) (enc : TypeId × Value → H) :
    ReturnsInHanded {} Try.checked os 9 .any (Rows.cordellePacedSpec.pre6 enc Try.prog Try.f9 Rows.cordellePacedRow.domain false) (Rows.cordellePacedSpec.post enc Try.prog Try.f9 false true false false) := by
  refine returnsInHanded_of_change (C := Try.checked) own started (by kernel_rfl) Try.func9
    (ChangeSpec.witness6 (enc := enc) (C := Try.checked) false ⟨#[], #[.slice none 0 0, .int .i64 0, .int .i64 0], []⟩ 8 (by kernel_rfl) (by kernel_rfl) (by kernel_rfl) (by kernel_rfl)) ?_
  intro w base args ds gs before hval0 hW hcnd _
  have hval : ∀ (j : Nat) t v, Try.f9.params[j]? = some t → args[j]? = some v → Value.okWide Try.prog w .any base t v := hval0
  have hW' := hW
  obtain ⟨p, q, hA0, hV, rfl, hfz, hnd⟩ := hW
  have hA : DataW.TrodAll enc Try.prog w 0 (fun _ => true) true Try.f9.params.toList args.toList ds p := hA0
  rw [Try.params9] at hA hval
  obtain ⟨v0, vs0, d0, ds0, p0, q0, hargs, rfl, rfl, h0, r0⟩ := trodAll_cons hA
  obtain ⟨v1, vs1, d1, ds1, p1, q1, rfl, rfl, rfl, h1, r1⟩ := trodAll_cons r0
  obtain ⟨v2, vs2, d2, ds2, p2, q2, rfl, rfl, rfl, h2, r2⟩ := trodAll_cons r1
  obtain ⟨rfl, rfl, rfl⟩ := trodAll_nil r2
  obtain rfl : args = #[v0, v1, v2] := by cases args; simp_all
  obtain ⟨rfl, rfl⟩ := trodVars_none hV
  have k0 := h0
  have lt0 : ∀ x ∈ p0, x.block < w.heap.size := by obtain ⟨m, hm⟩ := k0; exact DataW.trod_lt m _ _ _ hm
  obtain ⟨a0a, a0l, a0c, rfl⟩ := okWide_slice Try.underlying45 (hval 0 45 v0 rfl rfl)
  obtain ⟨n0, hn0⟩ := h0
  simp only [Value.cells] at hn0
  obtain ⟨a', l', c', e0, E0, hE0, hP0⟩ := sliceOf_open (size := 1) Try.underlying45 (by kernel_rfl) (by decide) (fun cs => ∃ (y0 : ByteArray), cs = [.string y0] ∧ y0.size ≤ maxLen) (fun _ _ _ h => phi9 h) hn0
  injection e0 with e1 e2 e3
  subst e1 e2 e3
  obtain ⟨a0X, a0hX⟩ := choose_lt (α := ByteArray) (p := fun i X => E0 i = [.string (X)] ∧ (X).size ≤ maxLen) (fun i hi => by
    obtain ⟨y0, hq⟩ := hP0 i hi
    exact ⟨y0, hq⟩)
  have a0S : SliceOf w a0a a0l a0c 1 (fun i => [.string (a0X i)]) := by
    refine ⟨hE0.1, hE0.2.1, fun hp => ?_⟩
    obtain ⟨b, off, ha, hb, hc⟩ := hE0.2.2 hp
    refine ⟨b, off, ha, hb, fun i hi j v hv => hc i hi j v ?_⟩
    rw [(a0hX i hi).1]
    exact hv
  have a0F0 : ∀ i, i < a0l → (a0X i).size ≤ maxLen := fun i hi => (a0hX i hi).2
  have k1 := h1
  have lt1 : ∀ x ∈ p1, x.block < w.heap.size := by obtain ⟨m, hm⟩ := k1; exact DataW.trod_lt m _ _ _ hm
  obtain ⟨a1, rfl, _, _, a1w⟩ := open_int Try.underlying3 (hval 1 3 v1 rfl rfl) h1
  have k2 := h2
  have lt2 : ∀ x ∈ p2, x.block < w.heap.size := by obtain ⟨m, hm⟩ := k2; exact DataW.trod_lt m _ _ _ hm
  obtain ⟨a2, rfl, _, _, a2w⟩ := open_int Try.underlying3 (hval 2 3 v2 rfl rfl) h2
  clear hA0 hval0
  refine (CordellePaced_walk a0a a0l a0c (fun i => (a0X i)) a1 a2 w a0S a0F0 a1w a2w).mono fun e W' ⟨he, bel⟩ => ?_
  subst he
  exact ⟨_, rfl, _, _, _, [], _, [], hW', trodAll_mk1 (shut_bool Try.underlying4 _), (trodAll_cons_mk (Below.trod laidOut (by kernel_rfl) (of_decide_eq_true (by kernel_rfl)) k0 bel lt0) (trodAll_cons_mk (Below.trod laidOut (by kernel_rfl) (of_decide_eq_true (by kernel_rfl)) k1 bel lt1) (trodAll_cons_mk (Below.trod laidOut (by kernel_rfl) (of_decide_eq_true (by kernel_rfl)) k2 bel lt2) trodAll_mk0))), rfl, bel.frame _, fun h => by cases h⟩

theorem over : Rows.cordellePacedRow.holds Try.pinned (OpenSpec.ofChange Rows.cordellePacedSpec) :=
  OpenClaim.holds_of_wide 9 Try.f9 rfl rfl rfl rfl rfl rfl rfl ⟨rfl, rfl, rfl, rfl, rfl⟩ rfl rfl rfl rfl rfl (by kernel_rfl) Try.func9 (by kernel_rfl)
    (of_decide_eq_true (by kernel_rfl)) (by unfold Func.isWrapper; first | (rw [if_pos (by decide +kernel)]; kernel_rfl) | (rw [if_neg (by decide +kernel)]; exact ⟨rfl, rfl⟩))
    (fun os started H enc _ => lifted os started H enc)

/-- The statement. -/
theorem proved : Rows.CordellePacedSaid := over
#print axioms proved
end Go.Proofs.Ytomhnegfemdcdaa.cordellePaced
