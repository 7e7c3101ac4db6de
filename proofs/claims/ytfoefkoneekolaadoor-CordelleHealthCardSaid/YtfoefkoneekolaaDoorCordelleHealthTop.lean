/- CordelleHealth: for every input the law returns true, and each argument reads behind the call as it read before; the two tables of package life hold what the text of the program lays (the card ties it). No other condition. -/
import Derived.Test.YtfoefkoneekolaaDoorLaid
import Derived.Test.YtfoefkoneekolaaDoorCards
import Derived.SevenTiedAt
import Derived.Test.YtfoefkoneekolaaDoorArgs
import Derived.Test.YtfoefkoneekolaaDoorCordelleHealth
import Derived.WalkKit
import Derived.ProofKit
import Derived.OpenShut
import Derived.ShutString
import Derived.ChangeOld
import Derived.Below
import Derived.Deep.Slices
namespace Go.Proofs.YtfoefkoneekolaaDoor.cordelleHealth
open Go.ChangeShapes Go.WideShapes Go.ChangeAt Go.RowKit Go.Deep
open Go.ChangeMaps (open_string shut_string)
set_option linter.unusedVariables false

theorem own : ownKnob Tryd.prog.godebug = none := by kernel_rfl
theorem laidOut : laidOutB Tryd.prog = true := by kernel_rfl

section
variable {H : Type} {enc : TypeId × Value → H} {w : World} {base : Nat} {spare : Nat → Bool} {held : Bool}
set_option maxRecDepth 20000 in
theorem phi22 {n : Nat} {cs : List Value} {x : DataW H × List MemPlace} (h : DataW.trod enc Tryd.prog w base spare held n 22 cs = some x) :
    ∃ (y0 : Int), cs = [.int .u16 y0] ∧ (Lit.int .u16 y0).wf = true := by
  obtain ⟨y0, rfl, _, hw⟩ := DataW.trod_int Tryd.underlying22 h
  exact ⟨y0, rfl, hw⟩

set_option maxRecDepth 20000 in
theorem phi4 {n : Nat} {cs : List Value} {x : DataW H × List MemPlace} (h : DataW.trod enc Tryd.prog w base spare held n 4 cs = some x) :
    ∃ (y0 : Bool), cs = [.bool y0] := by
  obtain ⟨y0, rfl, _⟩ := DataW.trod_bool Tryd.underlying4 h
  exact ⟨y0, rfl⟩

set_option maxRecDepth 20000 in
theorem phi3 {n : Nat} {cs : List Value} {x : DataW H × List MemPlace} (h : DataW.trod enc Tryd.prog w base spare held n 3 cs = some x) :
    ∃ (y0 : Int), cs = [.int .i64 y0] ∧ (Lit.int .i64 y0).wf = true := by
  obtain ⟨y0, rfl, _, hw⟩ := DataW.trod_int Tryd.underlying3 h
  exact ⟨y0, rfl, hw⟩
end

set_option maxRecDepth 100000 in
theorem lifted (os : Os) (started : os.Started) (H : Type) (enc : TypeId × Value → H) :
    ReturnsInHanded {} Tryd.checked os 3 .any (fun w args => (Rows.cordelleHealthSpec.pre enc Tryd.prog Tryd.f3 [] false w args ∧ laidMetH Tryd.prog [("cordelle/life.better", Rows.laid_cordelle_life_better), ("cordelle/life.worse", Rows.laid_cordelle_life_worse)] w) ∧ sizedMet enc Tryd.prog Tryd.f3 (OpenSpec.ofChange Rows.cordelleHealthSpec) false w args) (Rows.cordelleHealthSpec.post enc Tryd.prog Tryd.f3 false true false false) := by
  refine returnsInHanded_of_change_and (C := Tryd.checked) (X := fun w _ => laidMetH Tryd.prog [("cordelle/life.better", Rows.laid_cordelle_life_better), ("cordelle/life.worse", Rows.laid_cordelle_life_worse)] w) (fun _ _ _ hh h => h.of_heap hh) own started (by kernel_rfl) Tryd.func3
    (ChangeSpec.witness_shaped (enc := enc) (C := Tryd.checked) (os := os) (X := fun w _ => laidMetH Tryd.prog [("cordelle/life.better", Rows.laid_cordelle_life_better), ("cordelle/life.worse", Rows.laid_cordelle_life_worse)] w) false (World.doorLaid Tryd.prog 400 os) #[.int .u16 0, .slice none 0 0, .int .i64 0] 8 rfl (World.shaped_of_RefB (by kernel_rfl) (by kernel_rfl)) (by kernel_rfl) (by kernel_rfl) (by kernel_rfl) (door_met os _)) ?_
  intro w base args ds gs before hval0 hW _ _ hL _
  have hval : ∀ (j : Nat) t v, Tryd.f3.params[j]? = some t → args[j]? = some v → Value.okWide Tryd.prog w .any base t v := hval0
  have hW' := hW
  obtain ⟨p, q, hA0, hV, rfl, hfz, hnd⟩ := hW
  have hA : DataW.TrodAll enc Tryd.prog w 0 (fun _ => true) true Tryd.f3.params.toList args.toList ds p := hA0
  rw [Tryd.params3] at hA hval
  obtain ⟨v0, vs0, d0, ds0, p0, q0, hargs, rfl, rfl, h0, r0⟩ := trodAll_cons hA
  obtain ⟨v1, vs1, d1, ds1, p1, q1, rfl, rfl, rfl, h1, r1⟩ := trodAll_cons r0
  obtain ⟨v2, vs2, d2, ds2, p2, q2, rfl, rfl, rfl, h2, r2⟩ := trodAll_cons r1
  obtain ⟨rfl, rfl, rfl⟩ := trodAll_nil r2
  obtain rfl : args = #[v0, v1, v2] := by cases args; simp_all
  obtain ⟨rfl, rfl⟩ := trodVars_none hV
  have k0 := h0
  have lt0 : ∀ x ∈ p0, x.block < w.heap.size := by obtain ⟨m, hm⟩ := k0; exact DataW.trod_lt m _ _ _ hm
  obtain ⟨a0, rfl, _, _, a0w⟩ := open_int Tryd.underlying22 (hval 0 22 v0 rfl rfl) h0
  have k1 := h1
  have lt1 : ∀ x ∈ p1, x.block < w.heap.size := by obtain ⟨m, hm⟩ := k1; exact DataW.trod_lt m _ _ _ hm
  obtain ⟨a1a, a1l, a1c, rfl⟩ := okWide_slice Tryd.underlying23 (hval 1 23 v1 rfl rfl)
  obtain ⟨n1, hn1⟩ := h1
  simp only [Value.cells] at hn1
  obtain ⟨a', l', c', e1, E1, hE1, hP1⟩ := sliceOf_open (size := 1) Tryd.underlying23 (by kernel_rfl) (by decide) (fun cs => ∃ (y0 : Bool), cs = [.bool y0]) (fun _ _ _ h => phi4 h) hn1
  injection e1 with e1 e2 e3
  subst e1 e2 e3
  obtain ⟨a1X, a1hX⟩ := choose_lt (α := Bool) (p := fun i X => E1 i = [.bool (X)]) (fun i hi => by
    obtain ⟨y0, hq⟩ := hP1 i hi
    exact ⟨y0, hq⟩)
  have a1S : SliceOf w a1a a1l a1c 1 (fun i => [.bool (a1X i)]) := by
    refine ⟨hE1.1, hE1.2.1, fun hp => ?_⟩
    obtain ⟨b, off, ha, hb, hc⟩ := hE1.2.2 hp
    refine ⟨b, off, ha, hb, fun i hi j v hv => hc i hi j v ?_⟩
    rw [a1hX i hi]
    exact hv
  have k2 := h2
  have lt2 : ∀ x ∈ p2, x.block < w.heap.size := by obtain ⟨m, hm⟩ := k2; exact DataW.trod_lt m _ _ _ hm
  obtain ⟨a2, rfl, _, _, a2w⟩ := open_int Tryd.underlying3 (hval 2 3 v2 rfl rfl) h2
  clear hA0 hval0
  refine (CordelleHealth_walk a0 a1a a1l a1c (fun i => (a1X i)) a2 w (tabs_of_laid hL) a0w a1S a2w).mono fun e W' ⟨he, bel⟩ => ?_
  subst he
  exact ⟨_, rfl, _, _, _, [], _, [], hW', trodAll_mk1 (shut_bool Tryd.underlying4 _), (trodAll_cons_mk (Below.trod laidOut (by kernel_rfl) (of_decide_eq_true (by kernel_rfl)) k0 bel lt0) (trodAll_cons_mk (Below.trod laidOut (by kernel_rfl) (of_decide_eq_true (by kernel_rfl)) k1 bel lt1) (trodAll_cons_mk (Below.trod laidOut (by kernel_rfl) (of_decide_eq_true (by kernel_rfl)) k2 bel lt2) trodAll_mk0))), rfl, bel.frame _, fun h => by cases h⟩

theorem over : Rows.cordelleHealthRow.holds Tryd.pinned (OpenSpec.ofChange Rows.cordelleHealthSpec) :=
  OpenClaim.holds_of_wide 3 Tryd.f3 rfl rfl rfl rfl rfl rfl rfl ⟨rfl, rfl, rfl, rfl, rfl⟩ rfl rfl rfl rfl rfl (by kernel_rfl) Tryd.func3 (by kernel_rfl)
    (of_decide_eq_true (by kernel_rfl)) (by unfold Func.isWrapper; first | (rw [if_pos (by decide +kernel)]; kernel_rfl) | (rw [if_neg (by decide +kernel)]; exact ⟨rfl, rfl⟩))
    (fun os started H enc _ => lifted os started H enc)

/-- The statement: the tied card. -/
theorem proved : Rows.CordelleHealthCardSaid :=
  Claim7.holds_tied_plain_at .later [] [.data, .data] true (true, "0c7263b984a69400aaf66a79b96865ad219881d99bb32ee58b7d43224739d913") false
    over (fun _ h => by cases h) (by kernel_rfl) (fun _ h => by cases h) cordelleHealth_row_tie rfl ⟨rfl, rfl⟩ (by kernel_rfl) rfl
    (fun f fn hf hfn => by
      obtain rfl : f = 3 := Option.some.inj ((show Tryd.prog.funcNamed "cordelle/cordelletop.CordelleHealth" = some 3 by kernel_rfl).symm.trans hf) |>.symm
      obtain rfl : fn = Tryd.f3 := (Option.some.inj (Tryd.func3.symm.trans hfn)).symm
      exact ⟨by kernel_rfl, fun j t ht => by
        rw [Tryd.params3] at ht
        have hm : t ∈ [22, 23, 3] := by simpa using Array.mem_of_getElem? ht
        have hall : ([22, 23, 3].all fun u => !Tryd.prog.wantsStandIn u) = true := by kernel_rfl
        exact (show Tryd.prog.wantsStandIn t = false by simpa using List.all_eq_true.1 hall t hm)⟩)
    (by kernel_rfl)
#print axioms proved
end Go.Proofs.YtfoefkoneekolaaDoor.cordelleHealth
