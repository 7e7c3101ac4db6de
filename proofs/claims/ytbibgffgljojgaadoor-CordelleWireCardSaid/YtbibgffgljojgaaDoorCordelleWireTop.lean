/- CordelleWire: for every input the law returns true, and each argument reads behind the call as it read before; the listed tables hold what the text of the program lays (the card ties them). No other condition. -/
import Derived.Test.YtbibgffgljojgaaDoorCards
import Derived.Test.YtbibgffgljojgaaDoorTie
import Derived.SevenTiedAt
import Derived.Lay
import Derived.LaidMore
import Derived.Stop.Joined
import Derived.Test.YtbibgffgljojgaaDoorArgs
import Derived.Test.YtbibgffgljojgaaDoorCordelleWire
import Derived.WalkKit
import Derived.ProofKit
import Derived.OpenShut
import Derived.ShutString
import Derived.ChangeOld
import Derived.Below
import Derived.Deep.Slices
namespace Go.Proofs.YtbibgffgljojgaaDoor.cordelleWire
open Go.ChangeShapes Go.WideShapes Go.ChangeAt Go.RowKit Go.Deep
open Go.ChangeMaps (open_string shut_string)
set_option linter.unusedVariables false

theorem own : ownKnob Tryd.prog.godebug = none := by kernel_rfl
theorem laidOut : laidOutB Tryd.prog = true := by kernel_rfl

section
variable {H : Type} {enc : TypeId × Value → H} {w : World} {base : Nat} {spare : Nat → Bool} {held : Bool}
set_option maxRecDepth 20000 in
theorem phi4 {n : Nat} {cs : List Value} {x : DataW H × List MemPlace} (h : DataW.trod enc Tryd.prog w base spare held n 4 cs = some x) :
    ∃ (y0 : Bool), cs = [.bool y0] := by
  obtain ⟨y0, rfl, _⟩ := DataW.trod_bool Tryd.underlying4 h
  exact ⟨y0, rfl⟩

set_option maxRecDepth 20000 in
theorem phi3 {n : Nat} {cs : List Value} {x : DataW H × List MemPlace} (h : DataW.trod enc Tryd.prog w base spare held n 3 cs = some x) :
    ∃ (y0 : Int), cs = [.int .i64 y0] ∧ (Lit.int .i64 y0).wf = true := by
  obtain ⟨y0, rfl, _, hw⟩ := DataW.trod_int Tryd.underlying3 h
  exact ⟨y0, rfl, hw⟩

set_option maxRecDepth 20000 in
theorem phi22 {n : Nat} {cs : List Value} {x : DataW H × List MemPlace} (h : DataW.trod enc Tryd.prog w base spare held n 22 cs = some x) :
    ∃ (y0 : Int), cs = [.int .u16 y0] ∧ (Lit.int .u16 y0).wf = true := by
  obtain ⟨y0, rfl, _, hw⟩ := DataW.trod_int Tryd.underlying22 h
  exact ⟨y0, rfl, hw⟩

set_option maxRecDepth 20000 in
theorem phi23 {n : Nat} {cs : List Value} {x : DataW H × List MemPlace} (h : DataW.trod enc Tryd.prog w base spare held n 23 cs = some x) :
    ∃ (y0 : Int), cs = [.int .u32 y0] ∧ (Lit.int .u32 y0).wf = true := by
  obtain ⟨y0, rfl, _, hw⟩ := DataW.trod_int Tryd.underlying23 h
  exact ⟨y0, rfl, hw⟩

set_option maxRecDepth 20000 in
theorem phi9 {n : Nat} {cs : List Value} {x : DataW H × List MemPlace} (h : DataW.trod enc Tryd.prog w base spare held n 9 cs = some x) :
    ∃ (y0 : ByteArray), cs = [.string y0] ∧ y0.size ≤ maxLen := by
  obtain ⟨y0, rfl, _, hw⟩ := DataW.trod_string Tryd.underlying9 h
  exact ⟨y0, rfl, hw⟩

set_option maxRecDepth 20000 in
theorem phi26 {n : Nat} {cs : List Value} {x : DataW H × List MemPlace} (h : DataW.trod enc Tryd.prog w base spare held n 26 cs = some x) :
    ∃ (y0 : Bool) (y1 : Int) (y2 : Int) (y3 : Int) (y4 : Int) (y5 : Option Addr) (y6 : Nat) (y7 : Nat) (y8 : Nat → Int) (y9 : Bool) (y10 : Int) (y11 : ByteArray), cs = [.bool y0, .int .i64 y1, .int .u16 y2, .int .u32 y3, .int .u32 y4, .slice y5 y6 y7, .bool y9, .int .i64 y10, .string y11] ∧ (Lit.int .i64 y1).wf = true ∧ (Lit.int .u16 y2).wf = true ∧ (Lit.int .u32 y3).wf = true ∧ (Lit.int .u32 y4).wf = true ∧ SliceOf w y5 y6 y7 1 (fun j => [.int .u32 (y8 j)]) ∧ (∀ j, j < y6 → (Lit.int .u32 (y8 j)).wf = true) ∧ (Lit.int .i64 y10).wf = true ∧ y11.size ≤ maxLen := by
  obtain ⟨xs, m, _, _, hl, hxs, hf⟩ := DataW.trod_struct Tryd.underlying26 h
  have hl' : cs.length = 9 := hl.trans (by kernel_rfl)
  match cs, hl' with
  | [c0, c1, c2, c3, c4, c5, c6, c7, c8], _ =>
    have h0 := hf 0 _ rfl
    have hx0 : ∃ z, xs[0]? = some z := ⟨_, List.getElem?_eq_getElem (by rw [hxs]; decide)⟩
    obtain ⟨z0, hz0⟩ := hx0
    have g0 : DataW.trod enc Tryd.prog w base spare held m 4 [c0] = some z0 := h0.trans hz0
    obtain ⟨f0v0, q0⟩ := phi4 g0
    simp only [List.cons.injEq, and_true] at q0
    subst q0
    have h1 := hf 1 _ rfl
    have hx1 : ∃ z, xs[1]? = some z := ⟨_, List.getElem?_eq_getElem (by rw [hxs]; decide)⟩
    obtain ⟨z1, hz1⟩ := hx1
    have g1 : DataW.trod enc Tryd.prog w base spare held m 3 [c1] = some z1 := h1.trans hz1
    obtain ⟨f1v0, q1, f1w0⟩ := phi3 g1
    simp only [List.cons.injEq, and_true] at q1
    subst q1
    have h2 := hf 2 _ rfl
    have hx2 : ∃ z, xs[2]? = some z := ⟨_, List.getElem?_eq_getElem (by rw [hxs]; decide)⟩
    obtain ⟨z2, hz2⟩ := hx2
    have g2 : DataW.trod enc Tryd.prog w base spare held m 22 [c2] = some z2 := h2.trans hz2
    obtain ⟨f2v0, q2, f2w0⟩ := phi22 g2
    simp only [List.cons.injEq, and_true] at q2
    subst q2
    have h3 := hf 3 _ rfl
    have hx3 : ∃ z, xs[3]? = some z := ⟨_, List.getElem?_eq_getElem (by rw [hxs]; decide)⟩
    obtain ⟨z3, hz3⟩ := hx3
    have g3 : DataW.trod enc Tryd.prog w base spare held m 23 [c3] = some z3 := h3.trans hz3
    obtain ⟨f3v0, q3, f3w0⟩ := phi23 g3
    simp only [List.cons.injEq, and_true] at q3
    subst q3
    have h4 := hf 4 _ rfl
    have hx4 : ∃ z, xs[4]? = some z := ⟨_, List.getElem?_eq_getElem (by rw [hxs]; decide)⟩
    obtain ⟨z4, hz4⟩ := hx4
    have g4 : DataW.trod enc Tryd.prog w base spare held m 23 [c4] = some z4 := h4.trans hz4
    obtain ⟨f4v0, q4, f4w0⟩ := phi23 g4
    simp only [List.cons.injEq, and_true] at q4
    subst q4
    have h5 := hf 5 _ rfl
    have hx5 : ∃ z, xs[5]? = some z := ⟨_, List.getElem?_eq_getElem (by rw [hxs]; decide)⟩
    obtain ⟨z5, hz5⟩ := hx5
    have g5 : DataW.trod enc Tryd.prog w base spare held m 24 [c5] = some z5 := h5.trans hz5
    obtain ⟨f5a, f5l, f5c, e5, E5, hE5, hP5⟩ := sliceOf_open (size := 1) Tryd.underlying24 (by kernel_rfl) (by decide) (fun cs => ∃ (y0 : Int), cs = [.int .u32 y0] ∧ (Lit.int .u32 y0).wf = true) (fun _ _ _ h => phi23 h) g5
    subst e5
    obtain ⟨f5X, f5hX⟩ := choose_lt (α := Int) (p := fun i X => E5 i = [.int .u32 (X)] ∧ (Lit.int .u32 (X)).wf = true) (fun i hi => by
      obtain ⟨y0, hq⟩ := hP5 i hi
      exact ⟨y0, hq⟩)
    have f5S : SliceOf w f5a f5l f5c 1 (fun i => [.int .u32 (f5X i)]) := by
      refine ⟨hE5.1, hE5.2.1, fun hp => ?_⟩
      obtain ⟨b, off, ha, hb, hc⟩ := hE5.2.2 hp
      refine ⟨b, off, ha, hb, fun i hi j v hv => hc i hi j v ?_⟩
      rw [(f5hX i hi).1]
      exact hv
    have f5F0 : ∀ i, i < f5l → (Lit.int .u32 (f5X i)).wf = true := fun i hi => (f5hX i hi).2
    have h6 := hf 6 _ rfl
    have hx6 : ∃ z, xs[6]? = some z := ⟨_, List.getElem?_eq_getElem (by rw [hxs]; decide)⟩
    obtain ⟨z6, hz6⟩ := hx6
    have g6 : DataW.trod enc Tryd.prog w base spare held m 4 [c6] = some z6 := h6.trans hz6
    obtain ⟨f6v0, q6⟩ := phi4 g6
    simp only [List.cons.injEq, and_true] at q6
    subst q6
    have h7 := hf 7 _ rfl
    have hx7 : ∃ z, xs[7]? = some z := ⟨_, List.getElem?_eq_getElem (by rw [hxs]; decide)⟩
    obtain ⟨z7, hz7⟩ := hx7
    have g7 : DataW.trod enc Tryd.prog w base spare held m 3 [c7] = some z7 := h7.trans hz7
    obtain ⟨f7v0, q7, f7w0⟩ := phi3 g7
    simp only [List.cons.injEq, and_true] at q7
    subst q7
    have h8 := hf 8 _ rfl
    have hx8 : ∃ z, xs[8]? = some z := ⟨_, List.getElem?_eq_getElem (by rw [hxs]; decide)⟩
    obtain ⟨z8, hz8⟩ := hx8
    have g8 : DataW.trod enc Tryd.prog w base spare held m 9 [c8] = some z8 := h8.trans hz8
    obtain ⟨f8v0, q8, f8w0⟩ := phi9 g8
    simp only [List.cons.injEq, and_true] at q8
    subst q8
    exact ⟨f0v0, f1v0, f2v0, f3v0, f4v0, f5a, f5l, f5c, (fun i => f5X i), f6v0, f7v0, f8v0, rfl, f1w0, f2w0, f3w0, f4w0, f5S, f5F0, f7w0, f8w0⟩

set_option maxRecDepth 20000 in
theorem phi28 {n : Nat} {cs : List Value} {x : DataW H × List MemPlace} (h : DataW.trod enc Tryd.prog w base spare held n 28 cs = some x) :
    ∃ (y0 : Bool) (y1 : Int) (y2 : Int) (y3 : Int) (y4 : Int) (y5 : Option Addr) (y6 : Nat) (y7 : Nat) (y8 : Nat → Int) (y9 : Bool) (y10 : Int) (y11 : ByteArray) (y12 : ByteArray) (y13 : Int), cs = [.bool y0, .int .i64 y1, .int .u16 y2, .int .u32 y3, .int .u32 y4, .slice y5 y6 y7, .bool y9, .int .i64 y10, .string y11, .string y12, .int .i64 y13] ∧ (Lit.int .i64 y1).wf = true ∧ (Lit.int .u16 y2).wf = true ∧ (Lit.int .u32 y3).wf = true ∧ (Lit.int .u32 y4).wf = true ∧ SliceOf w y5 y6 y7 1 (fun j => [.int .u32 (y8 j)]) ∧ (∀ j, j < y6 → (Lit.int .u32 (y8 j)).wf = true) ∧ (Lit.int .i64 y10).wf = true ∧ y11.size ≤ maxLen ∧ y12.size ≤ maxLen ∧ (Lit.int .i64 y13).wf = true := by
  obtain ⟨xs, m, _, _, hl, hxs, hf⟩ := DataW.trod_struct Tryd.underlying28 h
  have hl' : cs.length = 11 := hl.trans (by kernel_rfl)
  match cs, hl' with
  | [c0, c1, c2, c3, c4, c5, c6, c7, c8, c9, c10], _ =>
    have h0 := hf 0 _ rfl
    have hx0 : ∃ z, xs[0]? = some z := ⟨_, List.getElem?_eq_getElem (by rw [hxs]; decide)⟩
    obtain ⟨z0, hz0⟩ := hx0
    have g0 : DataW.trod enc Tryd.prog w base spare held m 26 [c0, c1, c2, c3, c4, c5, c6, c7, c8] = some z0 := h0.trans hz0
    obtain ⟨f0v0, f0v1, f0v2, f0v3, f0v4, f0v5, f0v6, f0v7, f0v8, f0v9, f0v10, f0v11, q0, f0w0, f0w1, f0w2, f0w3, f0w4, f0w5, f0w6, f0w7⟩ := phi26 g0
    simp only [List.cons.injEq, and_true] at q0
    obtain ⟨rfl, rfl, rfl, rfl, rfl, rfl, rfl, rfl, rfl⟩ := q0
    have h1 := hf 1 _ rfl
    have hx1 : ∃ z, xs[1]? = some z := ⟨_, List.getElem?_eq_getElem (by rw [hxs]; decide)⟩
    obtain ⟨z1, hz1⟩ := hx1
    have g1 : DataW.trod enc Tryd.prog w base spare held m 9 [c9] = some z1 := h1.trans hz1
    obtain ⟨f1v0, q1, f1w0⟩ := phi9 g1
    simp only [List.cons.injEq, and_true] at q1
    subst q1
    have h2 := hf 2 _ rfl
    have hx2 : ∃ z, xs[2]? = some z := ⟨_, List.getElem?_eq_getElem (by rw [hxs]; decide)⟩
    obtain ⟨z2, hz2⟩ := hx2
    have g2 : DataW.trod enc Tryd.prog w base spare held m 3 [c10] = some z2 := h2.trans hz2
    obtain ⟨f2v0, q2, f2w0⟩ := phi3 g2
    simp only [List.cons.injEq, and_true] at q2
    subst q2
    exact ⟨f0v0, f0v1, f0v2, f0v3, f0v4, f0v5, f0v6, f0v7, f0v8, f0v9, f0v10, f0v11, f1v0, f2v0, rfl, f0w0, f0w1, f0w2, f0w3, f0w4, f0w5, f0w6, f0w7, f1w0, f2w0⟩
end

set_option maxRecDepth 100000 in
theorem lifted (os : Os) (started : os.Started) (H : Type) (enc : TypeId × Value → H) :
    ReturnsInHanded {} Tryd.checked os 3 .any (fun w args => (Rows.cordelleWireSpec.pre enc Tryd.prog Tryd.f3 [] false w args ∧ laidMetH Tryd.prog [("unicode/utf8.acceptRanges", Rows.laid_unicode_utf8_acceptRanges), ("unicode/utf8.first", Rows.laid_unicode_utf8_first)] w) ∧ sizedMet enc Tryd.prog Tryd.f3 (OpenSpec.ofChange Rows.cordelleWireSpec) false w args) (Rows.cordelleWireSpec.post enc Tryd.prog Tryd.f3 false true false false) := by
  refine returnsInHanded_of_change_and (C := Tryd.checked) (X := fun w _ => laidMetH Tryd.prog [("unicode/utf8.acceptRanges", Rows.laid_unicode_utf8_acceptRanges), ("unicode/utf8.first", Rows.laid_unicode_utf8_first)] w) (fun _ _ _ hh h => h.of_heap hh) own started (by kernel_rfl) Tryd.func3
    (ChangeSpec.witness_shaped (enc := enc) (C := Tryd.checked) (os := os) (X := fun w _ => laidMetH Tryd.prog [("unicode/utf8.acceptRanges", Rows.laid_unicode_utf8_acceptRanges), ("unicode/utf8.first", Rows.laid_unicode_utf8_first)] w) false (World.laidAll Tryd.prog os [("unicode/utf8.acceptRanges", Rows.laid_unicode_utf8_acceptRanges), ("unicode/utf8.first", Rows.laid_unicode_utf8_first)]) #[.agg #[.bool false, .int .i64 0, .int .u16 0, .int .u32 0, .int .u32 0, .slice none 0 0, .bool false, .int .i64 0, .string ByteArray.empty, .string ByteArray.empty, .int .i64 0], .int .i64 0, .int .u32 0] 8 (World.laidAll_os _ _ _) (World.shaped_of_ZipB (by kernel_rfl) (by kernel_rfl)) (by kernel_rfl) (by kernel_rfl) (by kernel_rfl)
      (by rw [MakeChecks.laidMetH_plain _ _ _ (by kernel_rfl)]; exact laidMet_laidAll _ (by kernel_rfl) (by kernel_rfl))) ?_
  intro w base args ds gs before hval0 hW _ _ hL _
  have hval : ∀ (j : Nat) t v, Tryd.f3.params[j]? = some t → args[j]? = some v → Value.okWide Tryd.prog w .any base t v := hval0
  have hW' := hW
  obtain ⟨p, q, hA0, hV, rfl, hfz, hnd⟩ := hW
  have hA : DataW.TrodAll enc Tryd.prog w 0 (fun _ => true) true Tryd.f3.params.toList args.toList ds p := hA0
  rw [Tryd.params3] at hA hval
  obtain ⟨v0, vs0, d0, ds0, p0, q0, hargs, rfl, rfl, h0, r0⟩ := trodAll_cons hA
  obtain ⟨v1, vs1, d1, ds1, p1, q1, rfl, rfl, rfl, h1, r1⟩ := trodAll_cons r0
  obtain ⟨v2, vs2, d2, ds2, p2, q2, rfl, rfl, rfl, h2, r2⟩ := trodAll_cons r1
  obtain ⟨rfl, rfl, rfl⟩ := trodAll_nil r2
  obtain rfl : args = #[v0, v1, v2] := by cases args; simp_all
  obtain ⟨rfl, rfl⟩ := trodVars_none hV
  have k0 := h0
  have lt0 : ∀ x ∈ p0, x.block < w.heap.size := by obtain ⟨m, hm⟩ := k0; exact DataW.trod_lt m _ _ _ hm
  obtain ⟨cs0, rfl, _⟩ := okWide_struct Tryd.underlying28 (hval 0 28 v0 rfl rfl)
  obtain ⟨n0, hn0⟩ := h0
  simp only [Value.cells] at hn0
  obtain ⟨a0x0, a0x1, a0x2, a0x3, a0x4, a0x5a, a0x5l, a0x5c, a0x5e0, a0x6, a0x7, a0x8, a0x9, a0x10, hcs0, a0x1w0, a0x2w0, a0x3w0, a0x4w0, a0x5S, a0x5F0, a0x7w0, a0x8w0, a0x9w0, a0x10w0⟩ := phi28 hn0
  obtain ⟨l0⟩ := cs0
  simp only at hcs0
  subst hcs0
  have k1 := h1
  have lt1 : ∀ x ∈ p1, x.block < w.heap.size := by obtain ⟨m, hm⟩ := k1; exact DataW.trod_lt m _ _ _ hm
  obtain ⟨a1, rfl, _, _, a1w⟩ := open_int Tryd.underlying3 (hval 1 3 v1 rfl rfl) h1
  have k2 := h2
  have lt2 : ∀ x ∈ p2, x.block < w.heap.size := by obtain ⟨m, hm⟩ := k2; exact DataW.trod_lt m _ _ _ hm
  obtain ⟨a2, rfl, _, _, a2w⟩ := open_int Tryd.underlying23 (hval 2 23 v2 rfl rfl) h2
  clear hA0 hval0
  refine (CordelleWire_walk a0x0 a0x1 a0x2 a0x3 a0x4 a0x5a a0x5l a0x5c a0x5e0 a0x6 a0x7 a0x8 a0x9 a0x10 a1 a2 w a0x1w0 a0x2w0 a0x3w0 a0x4w0 a0x5S a0x5F0 a0x7w0 a0x8w0 a0x9w0 a0x10w0 a1w a2w).mono fun e W' ⟨he, bel⟩ => ?_
  subst he
  exact ⟨_, rfl, _, _, _, [], _, [], hW', trodAll_mk1 (shut_bool Tryd.underlying4 _), (trodAll_cons_mk (Below.trod laidOut (by kernel_rfl) (of_decide_eq_true (by kernel_rfl)) k0 bel lt0) (trodAll_cons_mk (Below.trod laidOut (by kernel_rfl) (of_decide_eq_true (by kernel_rfl)) k1 bel lt1) (trodAll_cons_mk (Below.trod laidOut (by kernel_rfl) (of_decide_eq_true (by kernel_rfl)) k2 bel lt2) trodAll_mk0))), rfl, bel.frame _, fun h => by cases h⟩

theorem over : Rows.cordelleWireRow.holds Tryd.pinned (OpenSpec.ofChange Rows.cordelleWireSpec) :=
  OpenClaim.holds_of_wide 3 Tryd.f3 rfl rfl rfl rfl rfl rfl rfl ⟨rfl, rfl, rfl, rfl, rfl⟩ rfl rfl rfl rfl rfl (by kernel_rfl) Tryd.func3 (by kernel_rfl)
    (of_decide_eq_true (by kernel_rfl)) (by unfold Func.isWrapper; first | (rw [if_pos (by decide +kernel)]; kernel_rfl) | (rw [if_neg (by decide +kernel)]; exact ⟨rfl, rfl⟩))
    (fun os started H enc _ => lifted os started H enc)

/-- The statement: the tied card. -/
theorem proved : Rows.CordelleWireCardSaid :=
  Claim7.holds_tied_plain_at .later [] [.data, .pinned] true (true, "2537f32bb06a5a39d81d1b990a2157d03552a098bf7c3ed1a6041c17b91e4c4b") false
    over (fun _ h => by cases h) (by kernel_rfl) (fun _ h => by cases h) cordelleWire_row_tie rfl ⟨rfl, rfl⟩ (by kernel_rfl) rfl
    (fun f fn hf hfn => by
      obtain rfl : f = 3 := Option.some.inj ((show Tryd.prog.funcNamed "cordelle/cordelletop.CordelleWire" = some 3 by kernel_rfl).symm.trans hf) |>.symm
      obtain rfl : fn = Tryd.f3 := (Option.some.inj (Tryd.func3.symm.trans hfn)).symm
      exact ⟨by kernel_rfl, fun j t ht => by
        rw [Tryd.params3] at ht
        have hm : t ∈ [28, 3, 23] := by simpa using Array.mem_of_getElem? ht
        have hall : ([28, 3, 23].all fun u => !Tryd.prog.wantsStandIn u) = true := by kernel_rfl
        exact (show Tryd.prog.wantsStandIn t = false by simpa using List.all_eq_true.1 hall t hm)⟩)
    (by kernel_rfl)
#print axioms proved
end Go.Proofs.YtbibgffgljojgaaDoor.cordelleWire
