/- LifeTimes: for every input the law returns true, and each argument reads behind the call as it read before; the two tables of package life hold what the text of the program lays (the card ties it). No other condition. -/
import Derived.Test.YthngobikokhdlaaDoorLaid
import Derived.Test.YthngobikokhdlaaDoorCards
import Derived.SevenTiedAt
import Derived.Test.YthngobikokhdlaaDoorArgs
import Derived.Test.YthngobikokhdlaaDoorLifeTimes
import Derived.WalkKit
import Derived.ProofKit
import Derived.OpenShut
import Derived.ShutString
import Derived.ChangeOld
import Derived.Below
import Derived.Deep.Slices
namespace Go.Proofs.YthngobikokhdlaaDoor.lifeTimes
open Go.ChangeShapes Go.WideShapes Go.ChangeAt Go.RowKit Go.Deep
open Go.ChangeMaps (open_string shut_string)
set_option linter.unusedVariables false

theorem own : ownKnob Tryd.prog.godebug = none := by kernel_rfl
theorem laidOut : laidOutB Tryd.prog = true := by kernel_rfl

section
variable {H : Type} {enc : TypeId × Value → H} {w : World} {base : Nat} {spare : Nat → Bool} {held : Bool}
theorem phi3 {n : Nat} {cs : List Value} {x : DataW H × List MemPlace} (h : DataW.trod enc Tryd.prog w base spare held n 3 cs = some x) :
    ∃ (y0 : Int), cs = [.int .i64 y0] ∧ (Lit.int .i64 y0).wf = true := by
  obtain ⟨y0, rfl, _, hw⟩ := DataW.trod_int Tryd.underlying3 h
  exact ⟨y0, rfl, hw⟩

theorem phi23 {n : Nat} {cs : List Value} {x : DataW H × List MemPlace} (h : DataW.trod enc Tryd.prog w base spare held n 23 cs = some x) :
    ∃ (y0 : Int) (y1 : Int) (y2 : Int) (y3 : Int), cs = [.int .i64 y0, .int .i64 y1, .int .i64 y2, .int .i64 y3] ∧ (Lit.int .i64 y0).wf = true ∧ (Lit.int .i64 y1).wf = true ∧ (Lit.int .i64 y2).wf = true ∧ (Lit.int .i64 y3).wf = true := by
  obtain ⟨xs, m, _, _, hl, hxs, hf⟩ := DataW.trod_struct Tryd.underlying23 h
  have hl' : cs.length = 4 := hl.trans (by kernel_rfl)
  match cs, hl' with
  | [c0, c1, c2, c3], _ =>
    have h0 := hf 0 _ rfl
    have hx0 : ∃ z, xs[0]? = some z := ⟨_, List.getElem?_eq_getElem (by rw [hxs]; decide)⟩
    obtain ⟨z0, hz0⟩ := hx0
    have g0 : DataW.trod enc Tryd.prog w base spare held m 3 [c0] = some z0 := h0.trans hz0
    obtain ⟨f0v0, q0, f0w0_0⟩ := phi3 g0
    simp only [List.cons.injEq, and_true] at q0
    subst q0
    have h1 := hf 1 _ rfl
    have hx1 : ∃ z, xs[1]? = some z := ⟨_, List.getElem?_eq_getElem (by rw [hxs]; decide)⟩
    obtain ⟨z1, hz1⟩ := hx1
    have g1 : DataW.trod enc Tryd.prog w base spare held m 3 [c1] = some z1 := h1.trans hz1
    obtain ⟨f1v0, q1, f1w0_0⟩ := phi3 g1
    simp only [List.cons.injEq, and_true] at q1
    subst q1
    have h2 := hf 2 _ rfl
    have hx2 : ∃ z, xs[2]? = some z := ⟨_, List.getElem?_eq_getElem (by rw [hxs]; decide)⟩
    obtain ⟨z2, hz2⟩ := hx2
    have g2 : DataW.trod enc Tryd.prog w base spare held m 3 [c2] = some z2 := h2.trans hz2
    obtain ⟨f2v0, q2, f2w0_0⟩ := phi3 g2
    simp only [List.cons.injEq, and_true] at q2
    subst q2
    have h3 := hf 3 _ rfl
    have hx3 : ∃ z, xs[3]? = some z := ⟨_, List.getElem?_eq_getElem (by rw [hxs]; decide)⟩
    obtain ⟨z3, hz3⟩ := hx3
    have g3 : DataW.trod enc Tryd.prog w base spare held m 3 [c3] = some z3 := h3.trans hz3
    obtain ⟨f3v0, q3, f3w0_0⟩ := phi3 g3
    simp only [List.cons.injEq, and_true] at q3
    subst q3
    exact ⟨f0v0, f1v0, f2v0, f3v0, rfl, f0w0_0, f1w0_0, f2w0_0, f3w0_0⟩

theorem phi4 {n : Nat} {cs : List Value} {x : DataW H × List MemPlace} (h : DataW.trod enc Tryd.prog w base spare held n 4 cs = some x) :
    ∃ (y0 : Bool), cs = [.bool y0] := by
  obtain ⟨y0, rfl, _⟩ := DataW.trod_bool Tryd.underlying4 h
  exact ⟨y0, rfl⟩

theorem phi31 {n : Nat} {cs : List Value} {x : DataW H × List MemPlace} (h : DataW.trod enc Tryd.prog w base spare held n 31 cs = some x) :
    ∃ (y0 : Bool) (y1 : Int) (y2 : Int), cs = [.bool y0, .int .i64 y1, .int .i64 y2] ∧ (Lit.int .i64 y1).wf = true ∧ (Lit.int .i64 y2).wf = true := by
  obtain ⟨xs, m, _, _, hl, hxs, hf⟩ := DataW.trod_struct Tryd.underlying31 h
  have hl' : cs.length = 3 := hl.trans (by kernel_rfl)
  match cs, hl' with
  | [c0, c1, c2], _ =>
    have h0 := hf 0 _ rfl
    have hx0 : ∃ z, xs[0]? = some z := ⟨_, List.getElem?_eq_getElem (by rw [hxs]; decide)⟩
    obtain ⟨z0, hz0⟩ := hx0
    have g0 : DataW.trod enc Tryd.prog w base spare held m 4 [c0] = some z0 := h0.trans hz0
    obtain ⟨f0v0, q0⟩ := phi4 g0
    simp only [List.cons.injEq, and_true] at q0
    subst q0
    have h1 := hf 1 _ rfl
    have hx1 : ∃ z, xs[1]? = some z := ⟨_, List.getElem?_eq_getElem (by rw [hxs]; decide)⟩
    obtain ⟨z1, hz1⟩ := hx1
    have g1 : DataW.trod enc Tryd.prog w base spare held m 3 [c1] = some z1 := h1.trans hz1
    obtain ⟨f1v0, q1, f1w0_0⟩ := phi3 g1
    simp only [List.cons.injEq, and_true] at q1
    subst q1
    have h2 := hf 2 _ rfl
    have hx2 : ∃ z, xs[2]? = some z := ⟨_, List.getElem?_eq_getElem (by rw [hxs]; decide)⟩
    obtain ⟨z2, hz2⟩ := hx2
    have g2 : DataW.trod enc Tryd.prog w base spare held m 3 [c2] = some z2 := h2.trans hz2
    obtain ⟨f2v0, q2, f2w0_0⟩ := phi3 g2
    simp only [List.cons.injEq, and_true] at q2
    subst q2
    exact ⟨f0v0, f1v0, f2v0, rfl, f1w0_0, f2w0_0⟩
end

set_option maxRecDepth 100000 in
theorem lifted (os : Os) (started : os.Started) (H : Type) (enc : TypeId × Value → H) :
    ReturnsInHanded {} Tryd.checked os 3 .any (fun w args => (Rows.lifeTimesSpec.pre enc Tryd.prog Tryd.f3 [] false w args ∧ laidMetH Tryd.prog [("cordelle/life.better", Rows.laid_cordelle_life_better), ("cordelle/life.worse", Rows.laid_cordelle_life_worse)] w) ∧ sizedMet enc Tryd.prog Tryd.f3 (OpenSpec.ofChange Rows.lifeTimesSpec) false w args) (Rows.lifeTimesSpec.post enc Tryd.prog Tryd.f3 false true false false) := by
  refine returnsInHanded_of_change_and (C := Tryd.checked) (X := fun w _ => laidMetH Tryd.prog [("cordelle/life.better", Rows.laid_cordelle_life_better), ("cordelle/life.worse", Rows.laid_cordelle_life_worse)] w) (fun _ _ _ hh h => h.of_heap hh) own started (by kernel_rfl) Tryd.func3
    (ChangeSpec.witness_shaped (enc := enc) (C := Tryd.checked) (os := os) (X := fun w _ => laidMetH Tryd.prog [("cordelle/life.better", Rows.laid_cordelle_life_better), ("cordelle/life.worse", Rows.laid_cordelle_life_worse)] w) false (World.doorLaid Tryd.prog 400 os) #[.agg #[.int .i64 0, .int .i64 0, .int .i64 0, .int .i64 0], .slice none 0 0] 8 rfl (World.shaped_of_RefB (by kernel_rfl) (by kernel_rfl)) (by kernel_rfl) (by kernel_rfl) (by kernel_rfl) (door_met os _)) ?_
  intro w base args ds gs before hval0 hW _ _ hL _
  have hval : ∀ (j : Nat) t v, Tryd.f3.params[j]? = some t → args[j]? = some v → Value.okWide Tryd.prog w .any base t v := hval0
  have hW' := hW
  obtain ⟨p, q, hA0, hV, rfl, hfz, hnd⟩ := hW
  have hA : DataW.TrodAll enc Tryd.prog w 0 (fun _ => true) true Tryd.f3.params.toList args.toList ds p := hA0
  rw [Tryd.params3] at hA hval
  obtain ⟨v0, vs0, d0, ds0, p0, q0, hargs, rfl, rfl, h0, r0⟩ := trodAll_cons hA
  obtain ⟨v1, vs1, d1, ds1, p1, q1, rfl, rfl, rfl, h1, r1⟩ := trodAll_cons r0
  obtain ⟨rfl, rfl, rfl⟩ := trodAll_nil r1
  obtain rfl : args = #[v0, v1] := by cases args; simp_all
  obtain ⟨rfl, rfl⟩ := trodVars_none hV
  have k0 := h0
  have lt0 : ∀ x ∈ p0, x.block < w.heap.size := by obtain ⟨m, hm⟩ := k0; exact DataW.trod_lt m _ _ _ hm
  obtain ⟨cs0, rfl, _⟩ := okWide_struct Tryd.underlying23 (hval 0 23 v0 rfl rfl)
  obtain ⟨n0, hn0⟩ := h0
  simp only [Value.cells] at hn0
  obtain ⟨a0x0, a0x1, a0x2, a0x3, hcs0, a0x0w0, a0x1w0, a0x2w0, a0x3w0⟩ := phi23 hn0
  obtain ⟨l0⟩ := cs0
  simp only at hcs0
  subst hcs0
  have k1 := h1
  have lt1 : ∀ x ∈ p1, x.block < w.heap.size := by obtain ⟨m, hm⟩ := k1; exact DataW.trod_lt m _ _ _ hm
  obtain ⟨a1a, a1l, a1c, rfl⟩ := okWide_slice Tryd.underlying24 (hval 1 24 v1 rfl rfl)
  obtain ⟨n1, hn1⟩ := h1
  simp only [Value.cells] at hn1
  obtain ⟨a', l', c', e1, E1, hE1, hP1⟩ := sliceOf_open (size := 3) Tryd.underlying24 (by kernel_rfl) (by decide) (fun cs => ∃ (y0 : Bool) (y1 : Int) (y2 : Int), cs = [.bool y0, .int .i64 y1, .int .i64 y2] ∧ (Lit.int .i64 y1).wf = true ∧ (Lit.int .i64 y2).wf = true) (fun _ _ _ h => phi31 h) hn1
  injection e1 with e1 e2 e3
  subst e1 e2 e3
  obtain ⟨a1X, a1hX⟩ := choose_lt (α := Bool × Int × Int) (p := fun i X => E1 i = [.bool (X.1), .int .i64 (X.2.1), .int .i64 (X.2.2)] ∧ (Lit.int .i64 (X.2.1)).wf = true ∧ (Lit.int .i64 (X.2.2)).wf = true) (fun i hi => by
    obtain ⟨y0, y1, y2, hq⟩ := hP1 i hi
    exact ⟨(y0, y1, y2), hq⟩)
  have a1S : SliceOf w a1a a1l a1c 3 (fun i => [.bool ((a1X i).1), .int .i64 ((a1X i).2.1), .int .i64 ((a1X i).2.2)]) := by
    refine ⟨hE1.1, hE1.2.1, fun hp => ?_⟩
    obtain ⟨b, off, ha, hb, hc⟩ := hE1.2.2 hp
    refine ⟨b, off, ha, hb, fun i hi j v hv => hc i hi j v ?_⟩
    rw [(a1hX i hi).1]
    exact hv
  have a1F0 : ∀ i, i < a1l → (Lit.int .i64 ((a1X i).2.1)).wf = true := fun i hi => (a1hX i hi).2.1
  have a1F1 : ∀ i, i < a1l → (Lit.int .i64 ((a1X i).2.2)).wf = true := fun i hi => (a1hX i hi).2.2
  clear hA0 hval0
  refine (LifeTimes_walk a0x0 a0x1 a0x2 a0x3 a1a a1l a1c (fun i => (a1X i).1) (fun i => (a1X i).2.1) (fun i => (a1X i).2.2) w (tabs_of_laid hL) a0x0w0 a0x1w0 a0x2w0 a0x3w0 a1S a1F0 a1F1).mono fun e W' ⟨he, bel⟩ => ?_
  subst he
  exact ⟨_, rfl, _, _, _, [], _, [], hW', trodAll_mk1 (shut_bool Tryd.underlying4 _), (trodAll_cons_mk (Below.trod laidOut (by kernel_rfl) (of_decide_eq_true (by kernel_rfl)) k0 bel lt0) (trodAll_cons_mk (Below.trod laidOut (by kernel_rfl) (of_decide_eq_true (by kernel_rfl)) k1 bel lt1) trodAll_mk0)), rfl, bel.frame _, fun h => by cases h⟩

theorem over : Rows.lifeTimesRow.holds Tryd.pinned (OpenSpec.ofChange Rows.lifeTimesSpec) :=
  OpenClaim.holds_of_wide 3 Tryd.f3 rfl rfl rfl rfl rfl rfl rfl ⟨rfl, rfl, rfl, rfl, rfl⟩ rfl rfl rfl rfl rfl (by kernel_rfl) Tryd.func3 (by kernel_rfl)
    (of_decide_eq_true (by kernel_rfl)) (by unfold Func.isWrapper; first | (rw [if_pos (by decide +kernel)]; kernel_rfl) | (rw [if_neg (by decide +kernel)]; exact ⟨rfl, rfl⟩))
    (fun os started H enc _ => lifted os started H enc)

/-- The statement: the tied card. -/
theorem proved : Rows.LifeTimesCardSaid :=
  Claim7.holds_tied_plain_at .later [] [.data, .data] true (true, "fafb9f71bfc56b83288a0630944ec7a48c59c9f24d22d8799b2926eb1e2b8a75") false
    over (fun _ h => by cases h) (by kernel_rfl) (fun _ h => by cases h) lifeTimes_row_tie rfl ⟨rfl, rfl⟩ (by kernel_rfl) rfl
    (fun f fn hf hfn => by
      obtain rfl : f = 3 := Option.some.inj ((show Tryd.prog.funcNamed "cordelle/cordellelaw17.LifeTimes" = some 3 by kernel_rfl).symm.trans hf) |>.symm
      obtain rfl : fn = Tryd.f3 := (Option.some.inj (Tryd.func3.symm.trans hfn)).symm
      exact ⟨by kernel_rfl, fun j t ht => by
        rw [Tryd.params3] at ht
        have hm : t ∈ [23, 24] := by simpa using Array.mem_of_getElem? ht
        have hall : ([23, 24].all fun u => !Tryd.prog.wantsStandIn u) = true := by kernel_rfl
        exact (show Tryd.prog.wantsStandIn t = false by simpa using List.all_eq_true.1 hall t hm)⟩)
    (by kernel_rfl)
#print axioms proved
end Go.Proofs.YthngobikokhdlaaDoor.lifeTimes
