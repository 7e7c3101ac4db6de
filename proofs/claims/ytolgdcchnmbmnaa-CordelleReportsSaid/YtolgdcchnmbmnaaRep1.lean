/- Package report: may it be; as bytes. No condition but that the writer stands. (Printed by gen_rep1.py.) -/
import Derived.Test.YtolgdcchnmbmnaaPenW
import Derived.Test.YtolgdcchnmbmnaaSub1
namespace Go.Proofs.Ytolgdcchnmbmnaa
open Go.RowKit BigFrame
attribute [local go_sem ↓] Go.wp_at_zero Go.wp_at_succ

/-- A block of a report. -/
structure BkR where
  s : Int
  f : Int
  l : Int
  h : Int
  j : Int
  a : Int
  d : Int
def BkR.cells (x : BkR) : List Value := [.int .u32 x.s, .int .i64 x.f, .int .i64 x.l, .int .u32 x.h, .int .u32 x.j, .int .u32 x.a, .int .u32 x.d]
def BkR.may (x : BkR) : Bool := decide (0 ≤ x.f ∧ x.f ≤ 255 ∧ -8388608 ≤ x.l ∧ x.l < 8388608)
def U32 (n : Int) : Prop := 0 ≤ n ∧ n < 4294967296
def BkR.Ok (x : BkR) : Prop := U32 x.s ∧ U32 x.h ∧ U32 x.j ∧ U32 x.a ∧ U32 x.d
theorem bk_may (s f l : Int) (h j a d : Int) (z : Bool) (hz : decide (0 ≤ f ∧ f ≤ 255 ∧ -8388608 ≤ l ∧ l < 8388608) = z) (w : World) :
    Calls Try.prog 14 #[.agg #[.int .u32 s, .int .i64 f, .int .i64 l, .int .u32 h, .int .u32 j, .int .u32 a, .int .u32 d]] w fun e w' => e = .returned (.bool z) ∧ Below w.heap.size w w' := by
  have K := Blk.new w 49 #[.int .u32 s, .int .i64 f, .int .i64 l, .int .u32 h, .int .u32 j, .int .u32 a, .int .u32 d]
  have B : Below w.heap.size w (w.alloc (.cells #[.int .u32 s, .int .i64 f, .int .i64 l, .int .u32 h, .int .u32 j, .int .u32 a, .int .u32 d] 49)) := (Below.refl _ w).alloc (Nat.le_refl _) _
  by_cases h1 : 0 ≤ f
  · by_cases h2 : f ≤ 255
    · by_cases h3 : -8388608 ≤ l
      · by_cases h4 : l < 8388608
        · have hz2 : z = true := by rw [← hz]; simp [h1, h2, h3, h4]
          subst hz2
          clear hz
          go_enter Try.func14, Try.ntmps14
          go_upto_region 1 with fail
          generalize w.alloc (.cells #[.int .u32 s, .int .i64 f, .int .i64 l, .int .u32 h, .int .u32 j, .int .u32 a, .int .u32 d] 49) = w1 at *
          have c1 := K.cell
          simp at c1
          go_wp2_with fail
          go_ret
          exact ⟨rfl, B⟩
        · have hz2 : z = false := by rw [← hz]; simp [h4]
          subst hz2
          clear hz
          go_enter Try.func14, Try.ntmps14
          go_upto_region 1 with fail
          generalize w.alloc (.cells #[.int .u32 s, .int .i64 f, .int .i64 l, .int .u32 h, .int .u32 j, .int .u32 a, .int .u32 d] 49) = w1 at *
          have c1 := K.cell
          simp at c1
          go_wp2_with fail
          go_ret
          exact ⟨rfl, B⟩
      · have hz2 : z = false := by rw [← hz]; simp [h3]
        subst hz2
        clear hz
        go_enter Try.func14, Try.ntmps14
        go_upto_region 1 with fail
        generalize w.alloc (.cells #[.int .u32 s, .int .i64 f, .int .i64 l, .int .u32 h, .int .u32 j, .int .u32 a, .int .u32 d] 49) = w1 at *
        have c1 := K.cell
        simp at c1
        go_wp2_with fail
        go_ret
        exact ⟨rfl, B⟩
    · have hz2 : z = false := by rw [← hz]; simp [h2]
      subst hz2
      clear hz
      go_enter Try.func14, Try.ntmps14
      go_upto_region 1 with fail
      generalize w.alloc (.cells #[.int .u32 s, .int .i64 f, .int .i64 l, .int .u32 h, .int .u32 j, .int .u32 a, .int .u32 d] 49) = w1 at *
      have c1 := K.cell
      simp at c1
      go_wp2_with fail
      go_ret
      exact ⟨rfl, B⟩
  · have hz2 : z = false := by rw [← hz]; simp [h1]
    subst hz2
    clear hz
    go_enter Try.func14, Try.ntmps14
    go_upto_region 1 with fail
    generalize w.alloc (.cells #[.int .u32 s, .int .i64 f, .int .i64 l, .int .u32 h, .int .u32 j, .int .u32 a, .int .u32 d] 49) = w1 at *
    have c1 := K.cell
    simp at c1
    go_wp2_with fail
    go_ret
    exact ⟨rfl, B⟩
theorem sent_is (c t p b : Int) (z : Bool) (hz : decide (0 ≤ c ∧ c ≤ 1099511627776) = z) (w : World) :
    Calls Try.prog 13 #[.agg #[.int .i64 c, .int .u32 t, .int .u32 p, .int .u32 b]] w fun e w' => e = .returned (.bool z) ∧ Below w.heap.size w w' := by
  have K := Blk.new w 29 #[.int .i64 c, .int .u32 t, .int .u32 p, .int .u32 b]
  have B : Below w.heap.size w (w.alloc (.cells #[.int .i64 c, .int .u32 t, .int .u32 p, .int .u32 b] 29)) := (Below.refl _ w).alloc (Nat.le_refl _) _
  by_cases h1 : 0 ≤ c
  · by_cases h2 : c ≤ 1099511627776
    · have hz2 : z = true := by rw [← hz]; simp [h1, h2]
      subst hz2
      clear hz
      go_enter Try.func13, Try.ntmps13
      go_upto_region 1 with fail
      generalize w.alloc (.cells #[.int .i64 c, .int .u32 t, .int .u32 p, .int .u32 b] 29) = w1 at *
      have c1 := K.cell
      simp at c1
      go_wp2_with fail
      go_ret
      exact ⟨rfl, B⟩
    · have hz2 : z = false := by rw [← hz]; simp [h2]
      subst hz2
      clear hz
      go_enter Try.func13, Try.ntmps13
      go_upto_region 1 with fail
      generalize w.alloc (.cells #[.int .i64 c, .int .u32 t, .int .u32 p, .int .u32 b] 29) = w1 at *
      have c1 := K.cell
      simp at c1
      go_wp2_with fail
      go_ret
      exact ⟨rfl, B⟩
  · have hz2 : z = false := by rw [← hz]; simp [h1]
    subst hz2
    clear hz
    go_enter Try.func13, Try.ntmps13
    go_upto_region 1 with fail
    generalize w.alloc (.cells #[.int .i64 c, .int .u32 t, .int .u32 p, .int .u32 b] 29) = w1 at *
    have c1 := K.cell
    simp at c1
    go_wp2_with fail
    go_ret
    exact ⟨rfl, B⟩
def signI (n : Int) : Int := if 8388608 ≤ n then n - 16777216 else n
theorem rep_signed (n r : Int) (h0 : 0 ≤ n) (h1 : n < 16777216) (hr : signI n = r) (w : World) :
    Calls Try.prog 38 #[.int .i64 n] w fun e w' => e = .returned (.int .i64 r) ∧ w = w' := by
  by_cases h : 8388608 ≤ n
  · have hw : IntKind.i64.wrap (n - 16777216) = r := by rw [IntWalk.i64_in _ (by omega), ← hr]; unfold signI; rw [if_pos h]
    clear hr
    go_enter Try.func38, Try.ntmps38
    go_wp2_with fail
    go_ret
    exact ⟨rfl, rfl⟩
  · obtain rfl : n = r := by rw [← hr]; unfold signI; rw [if_neg h]
    clear hr
    go_enter Try.func38, Try.ntmps38
    go_wp2_with fail
    go_ret
    exact ⟨rfl, rfl⟩
/-- As bytes. -/
def encB (s f l : Int) (h j a d : Int) : List (List Int) := [be4All (fun i => [s].getD i 0) 1, beAll (fun i => [f].getD i 0) 1 1, beAll (fun i => [l].getD i 0) 3 1, be4All (fun i => [h, j, a, d].getD i 0) 4]
structure Gbk_write (g : Nat) (q : Nat) (v : Value) : Prop where
  l0 : q = 3 → ∃ x, v = .slice (some ⟨x, 0, none⟩) 1 1
  c0 : q = 4 → v = .pointer (some ⟨g, 0, none⟩)
  l1 : q = 7 → ∃ x, v = .slice (some ⟨x, 0, none⟩) 1 1
  c1 : q = 8 → v = .pointer (some ⟨g, 0, none⟩)
  l2 : q = 11 → ∃ x, v = .slice (some ⟨x, 0, none⟩) 1 1
  c2 : q = 12 → v = .pointer (some ⟨g, 0, none⟩)
  l3 : q = 21 → ∃ x, v = .slice (some ⟨x, 0, none⟩) 4 4
  c3 : q = 22 → v = .pointer (some ⟨g, 0, none⟩)
set_option maxRecDepth 8000 in
set_option maxHeartbeats 8000000 in
theorem bk_write (g : Nat) (bs : List Int) (v : Value) (s f l : Int) (h j a d : Int) (w : World) (h0 : OutAt w g bs v) (hl : bs.length ≤ 90000) (hu : (0 ≤ s ∧ s < 4294967296) ∧ (0 ≤ h ∧ h < 4294967296) ∧ (0 ≤ j ∧ j < 4294967296) ∧ (0 ≤ a ∧ a < 4294967296) ∧ (0 ≤ d ∧ d < 4294967296)) :
    Calls Try.prog 17 #[.agg #[.int .u32 s, .int .i64 f, .int .i64 l, .int .u32 h, .int .u32 j, .int .u32 a, .int .u32 d], .pointer (some ⟨g, 0, none⟩)] w fun e w' => e = .returned (.tuple #[]) ∧ ∃ v', OutAt w' g (bs ++ (encB s f l h j a d).flatMap id) v' ∧ MovedP w w' g v v' := by
  obtain ⟨PP, hPP⟩ : ∃ P, encB s f l h j a d = P := ⟨_, rfl⟩
  have hPl : (PP.flatMap id).length ≤ 100 := by rw [← hPP]; unfold encB; simp [beAll_len, be4All_len]
  have hp0 : PP[0]? = some (be4All (fun i => [s].getD i 0) 1) := by rw [← hPP]; rfl
  have hp1 : PP[1]? = some (beAll (fun i => [f].getD i 0) 1 1) := by rw [← hPP]; rfl
  have hp2 : PP[2]? = some (beAll (fun i => [l].getD i 0) 3 1) := by rw [← hPP]; rfl
  have hp3 : PP[3]? = some (be4All (fun i => [h, j, a, d].getD i 0) 4) := by rw [← hPP]; rfl
  have K := Blk.new w 49 #[.int .u32 s, .int .i64 f, .int .i64 l, .int .u32 h, .int .u32 j, .int .u32 a, .int .u32 d]
  have B : Below w.heap.size w (w.alloc (.cells #[.int .u32 s, .int .i64 f, .int .i64 l, .int .u32 h, .int .u32 j, .int .u32 a, .int .u32 d] 49)) := (Below.refl _ w).alloc (Nat.le_refl _) _
  have HS := fun k => stL_len bs PP k
  have hfin : stL bs PP 4 = bs ++ PP.flatMap id := by rw [← hPP]; rfl
  rw [hPP]
  clear hPP
  have hu := Lib.hid hu
  go_enter Try.func17, Try.ntmps17
  go_upto_region 1 with fail
  generalize w.alloc (.cells #[.int .u32 s, .int .i64 f, .int .i64 l, .int .u32 h, .int .u32 j, .int .u32 a, .int .u32 d] 49) = w1 at *
  have H1 := h0.below B
  have M1 : MovedP w w1 g v v := MovedP.of_below B
  have c1 := K.cell
  simp at c1
  go_upto_region 1 with fail
  have H1' : OutAt w1 g (stL bs PP 0) v := by unfold stL; simpa using H1
  have E0 := fun (gw : UWF (PenW w1 g v (stL bs PP) [4, 8, 12, 22] [(3, 27, [.int .u32 s]), (7, 3, [.int .i64 f]), (11, 3, [.int .i64 l]), (21, 27, [.int .u32 h, .int .u32 j, .int .u32 a, .int .u32 d])])) => (gw.holds.blk H1' K (by decide) (by decide)).cell
  simp at E0
  have hne : Nonempty (UWF (PenW w1 g v (stL bs PP) [4, 8, 12, 22] [(3, 27, [.int .u32 s]), (7, 3, [.int .i64 f]), (11, 3, [.int .i64 l]), (21, 27, [.int .u32 h, .int .u32 j, .int .u32 a, .int .u32 d])])) := PenW.ne H1'
  have hPL := Lib.hid hPl
  have HPS := Lib.hid HS
  clear c1 hPl HS
  refine wp_region_free [(0, 3, some 3), (4, 0, some 4), (5, 2, some 7), (8, 0, some 8), (9, 2, some 11), (12, 0, some 12), (13, 8, some 21), (22, 0, some 22), (23, 0, none)] (PenW w1 g v (stL bs PP) [4, 8, 12, 22] [(3, 27, [.int .u32 s]), (7, 3, [.int .i64 f]), (11, 3, [.int .i64 l]), (21, 27, [.int .u32 h, .int .u32 j, .int .u32 a, .int .u32 d])]) (Gbk_write g) (fun q => if q = 3 then .slice (some ⟨0, 0, none⟩) 1 1 else if q = 7 then .slice (some ⟨0, 0, none⟩) 1 1 else if q = 11 then .slice (some ⟨0, 0, none⟩) 1 1 else if q = 21 then .slice (some ⟨0, 0, none⟩) 4 4 else .pointer (some ⟨g, 0, none⟩)) (by kernel_rfl) (by kernel_rfl) ?_ ?_ ?_ ?_
  · intro z hz LL G W hC
    simp [moversI] at hz
    exact hC.quiet (by simp; omega) (by simp; omega)
  · exact PenW.start H1' _
  · intro z
    exact ⟨fun e => by subst e; exact ⟨0, rfl⟩, fun e => by subst e; rfl, fun e => by subst e; exact ⟨0, rfl⟩, fun e => by subst e; rfl, fun e => by subst e; exact ⟨0, rfl⟩, fun e => by subst e; rfl, fun e => by subst e; exact ⟨0, rfl⟩, fun e => by subst e; rfl⟩
  · intro G hG
    obtain ⟨x0, g3⟩ := (hG 3).l0 rfl
    have k4 := (hG 4).c0 rfl
    obtain ⟨x1, g7⟩ := (hG 7).l1 rfl
    have k8 := (hG 8).c1 rfl
    obtain ⟨x2, g11⟩ := (hG 11).l2 rfl
    have k12 := (hG 12).c2 rfl
    obtain ⟨x3, g21⟩ := (hG 21).l3 rfl
    have k22 := (hG 22).c3 rfl
    simp only [walkF, List.drop_zero, List.drop_succ_cons, List.take_succ_cons, List.take_zero, List.toList_toArray]; (repeat (go_big_quiet_step (fail))); refine wpQuiet_nil ?_
    refine ⟨_, _, _, _, _, _, rfl, .inl ⟨rfl, ?_, ?_⟩⟩
    · intro LL W hL hA hC
      refine ⟨?_⟩; go_simp; simp only [movesToUpon]
      exact ⟨⟨fun _ => ⟨_, rfl⟩, (fun e => by cases e), (fun e => by cases e), (fun e => by cases e), (fun e => by cases e), (fun e => by cases e), (fun e => by cases e), (fun e => by cases e)⟩, hC.made (n := 1) (by simp) (by simp) (by simp) rfl⟩
    · intro K' hK'; dsimp only at hK'; rw [g3]; go_big_quiet_op; go_big_quiet_on; (repeat (go_big_quiet_step (fail))); refine wpQuiet_nil ?_
      refine ⟨_, _, _, _, _, _, rfl, .inl ⟨rfl, ?_, ?_⟩⟩
      · intro LL W hL hA hC
        obtain ⟨v1, O1, M0⟩ := hC.at 0 4 rfl hL (fun m' e _ => absurd e (by omega))
        have KL := hC.at_lit (m := 3) (t := 27) (cs := [.int .u32 s]) (by simp) (hA 3 (by kernel_rfl)) g3
        refine ⟨?_⟩; go_simp; simp only [movesToUpon]
        refine (pen_OutU32 g _ v1 _ 1 1 (fun i => [s].getD i 0) W O1 (by have h1 := HPS.out 0; have h2 := hPL.out; omega) (SliceOf.of_blk (n := 1) KL (fun i => .int .u32 ([s].getD i 0)) rfl (by omega) (fun i hi => by match i, hi with
            | 0, _ => rfl
            )) (fun i hi => by obtain ⟨u0, u1, u2, u3, u4⟩ := hu.out; match i, hi with
            | 0, _ => exact u0
            ) (fun b off e => by injection e with e; injection e with e1 e2; subst e1; exact ⟨Blk.ne_ KL O1.blk (by decide), own_ne_blk O1.own KL (by decide)⟩)).mono ?_
        rintro e w' ⟨rfl, v2, O2, M2⟩
        refine ⟨_, rfl, ⟨(fun e => by cases e), fun _ => rfl, (fun e => by cases e), (fun e => by cases e), (fun e => by cases e), (fun e => by cases e), (fun e => by cases e), (fun e => by cases e)⟩, hC.call (by decide) 0 4 rfl hL (fun m' e _ => absurd e (by omega)) (fun a ha => by simp at ha; rcases ha with rfl | rfl | rfl | rfl <;> simp) O1 M0 (by rw [stL_succ _ _ _ _ hp0]; exact O2) M2 _⟩
      · intro K' hK'; dsimp only at hK'; rw [k4]; go_big_quiet_op; go_big_quiet_on; (repeat (go_big_quiet_step (fail))); refine wpQuiet_nil ?_
        refine ⟨_, _, _, _, _, _, rfl, .inl ⟨rfl, ?_, ?_⟩⟩
        · intro LL W hL hA hC
          refine ⟨?_⟩; go_simp; simp only [movesToUpon]
          exact ⟨⟨(fun e => by cases e), (fun e => by cases e), fun _ => ⟨_, rfl⟩, (fun e => by cases e), (fun e => by cases e), (fun e => by cases e), (fun e => by cases e), (fun e => by cases e)⟩, hC.made (n := 1) (by simp) (by simp) (by simp) rfl⟩
        · intro K' hK'; dsimp only at hK'; rw [g7]; go_big_quiet_op; go_big_quiet_on; (repeat (go_big_quiet_step (fail))); refine wpQuiet_nil ?_
          refine ⟨_, _, _, _, _, _, rfl, .inl ⟨rfl, ?_, ?_⟩⟩
          · intro LL W hL hA hC
            obtain ⟨v1, O1, M0⟩ := hC.at 1 8 rfl hL (fun m' _ e => by simp at e; subst e; exact hA 4 (by kernel_rfl))
            have KL := hC.at_lit (m := 7) (t := 3) (cs := [.int .i64 f]) (by simp) (hA 7 (by kernel_rfl)) g7
            refine ⟨?_⟩; go_simp; simp only [movesToUpon]
            refine (pen_U8 g _ v1 _ 1 1 (fun i => [f].getD i 0) W O1 (by have h1 := HPS.out 1; have h2 := hPL.out; omega) (SliceOf.of_blk (n := 1) KL (fun i => .int .i64 ([f].getD i 0)) rfl (by omega) (fun i hi => by match i, hi with
                | 0, _ => rfl
                )) (fun b off e => by injection e with e; injection e with e1 e2; subst e1; exact ⟨Blk.ne_ KL O1.blk (by decide), own_ne_blk O1.own KL (by decide)⟩)).mono ?_
            rintro e w' ⟨rfl, v2, O2, M2⟩
            refine ⟨_, rfl, ⟨(fun e => by cases e), (fun e => by cases e), (fun e => by cases e), fun _ => rfl, (fun e => by cases e), (fun e => by cases e), (fun e => by cases e), (fun e => by cases e)⟩, hC.call (by decide) 1 8 rfl hL (fun m' _ e => by simp at e; subst e; exact hA 4 (by kernel_rfl)) (fun a ha => by simp at ha; rcases ha with rfl | rfl | rfl | rfl <;> simp) O1 M0 (by rw [stL_succ _ _ _ _ hp1]; exact O2) M2 _⟩
          · intro K' hK'; dsimp only at hK'; rw [k8]; go_big_quiet_op; go_big_quiet_on; (repeat (go_big_quiet_step (fail))); refine wpQuiet_nil ?_
            refine ⟨_, _, _, _, _, _, rfl, .inl ⟨rfl, ?_, ?_⟩⟩
            · intro LL W hL hA hC
              refine ⟨?_⟩; go_simp; simp only [movesToUpon]
              exact ⟨⟨(fun e => by cases e), (fun e => by cases e), (fun e => by cases e), (fun e => by cases e), fun _ => ⟨_, rfl⟩, (fun e => by cases e), (fun e => by cases e), (fun e => by cases e)⟩, hC.made (n := 1) (by simp) (by simp) (by simp) rfl⟩
            · intro K' hK'; dsimp only at hK'; rw [g11]; go_big_quiet_op; go_big_quiet_on; (repeat (go_big_quiet_step (fail))); refine wpQuiet_nil ?_
              refine ⟨_, _, _, _, _, _, rfl, .inl ⟨rfl, ?_, ?_⟩⟩
              · intro LL W hL hA hC
                obtain ⟨v1, O1, M0⟩ := hC.at 2 12 rfl hL (fun m' _ e => by simp at e; subst e; exact hA 8 (by kernel_rfl))
                have KL := hC.at_lit (m := 11) (t := 3) (cs := [.int .i64 l]) (by simp) (hA 11 (by kernel_rfl)) g11
                refine ⟨?_⟩; go_simp; simp only [movesToUpon]
                refine (pen_U24 g _ v1 _ 1 1 (fun i => [l].getD i 0) W O1 (by have h1 := HPS.out 2; have h2 := hPL.out; omega) (SliceOf.of_blk (n := 1) KL (fun i => .int .i64 ([l].getD i 0)) rfl (by omega) (fun i hi => by match i, hi with
                    | 0, _ => rfl
                    )) (fun b off e => by injection e with e; injection e with e1 e2; subst e1; exact ⟨Blk.ne_ KL O1.blk (by decide), own_ne_blk O1.own KL (by decide)⟩)).mono ?_
                rintro e w' ⟨rfl, v2, O2, M2⟩
                refine ⟨_, rfl, ⟨(fun e => by cases e), (fun e => by cases e), (fun e => by cases e), (fun e => by cases e), (fun e => by cases e), fun _ => rfl, (fun e => by cases e), (fun e => by cases e)⟩, hC.call (by decide) 2 12 rfl hL (fun m' _ e => by simp at e; subst e; exact hA 8 (by kernel_rfl)) (fun a ha => by simp at ha; rcases ha with rfl | rfl | rfl | rfl <;> simp) O1 M0 (by rw [stL_succ _ _ _ _ hp2]; exact O2) M2 _⟩
              · intro K' hK'; dsimp only at hK'; rw [k12]; go_big_quiet_op; go_big_quiet_on; (repeat (go_big_quiet_step (fail))); refine wpQuiet_nil ?_
                refine ⟨_, _, _, _, _, _, rfl, .inl ⟨rfl, ?_, ?_⟩⟩
                · intro LL W hL hA hC
                  refine ⟨?_⟩; go_simp; simp only [movesToUpon]
                  exact ⟨⟨(fun e => by cases e), (fun e => by cases e), (fun e => by cases e), (fun e => by cases e), (fun e => by cases e), (fun e => by cases e), fun _ => ⟨_, rfl⟩, (fun e => by cases e)⟩, hC.made (n := 4) (by simp) (by simp) (by simp) rfl⟩
                · intro K' hK'; dsimp only at hK'; rw [g21]; go_big_quiet_op; go_big_quiet_on; (repeat (go_big_quiet_step (fail))); refine wpQuiet_nil ?_
                  refine ⟨_, _, _, _, _, _, rfl, .inl ⟨rfl, ?_, ?_⟩⟩
                  · intro LL W hL hA hC
                    obtain ⟨v1, O1, M0⟩ := hC.at 3 22 rfl hL (fun m' _ e => by simp at e; subst e; exact hA 12 (by kernel_rfl))
                    have KL := hC.at_lit (m := 21) (t := 27) (cs := [.int .u32 h, .int .u32 j, .int .u32 a, .int .u32 d]) (by simp) (hA 21 (by kernel_rfl)) g21
                    refine ⟨?_⟩; go_simp; simp only [movesToUpon]
                    refine (pen_OutU32 g _ v1 _ 4 4 (fun i => [h, j, a, d].getD i 0) W O1 (by have h1 := HPS.out 3; have h2 := hPL.out; omega) (SliceOf.of_blk (n := 4) KL (fun i => .int .u32 ([h, j, a, d].getD i 0)) rfl (by omega) (fun i hi => by match i, hi with
                        | 0, _ => rfl
                        | 1, _ => rfl
                        | 2, _ => rfl
                        | 3, _ => rfl
                        )) (fun i hi => by obtain ⟨u0, u1, u2, u3, u4⟩ := hu.out; match i, hi with
                        | 0, _ => exact u1
                        | 1, _ => exact u2
                        | 2, _ => exact u3
                        | 3, _ => exact u4
                        ) (fun b off e => by injection e with e; injection e with e1 e2; subst e1; exact ⟨Blk.ne_ KL O1.blk (by decide), own_ne_blk O1.own KL (by decide)⟩)).mono ?_
                    rintro e w' ⟨rfl, v2, O2, M2⟩
                    refine ⟨_, rfl, ⟨(fun e => by cases e), (fun e => by cases e), (fun e => by cases e), (fun e => by cases e), (fun e => by cases e), (fun e => by cases e), (fun e => by cases e), fun _ => rfl⟩, hC.call (by decide) 3 22 rfl hL (fun m' _ e => by simp at e; subst e; exact hA 12 (by kernel_rfl)) (fun a ha => by simp at ha; rcases ha with rfl | rfl | rfl | rfl <;> simp) O1 M0 (by rw [stL_succ _ _ _ _ hp3]; exact O2) M2 _⟩
                  · intro K' hK'; dsimp only at hK'; rw [k22]; go_big_quiet_op; go_big_quiet_on; (repeat (go_big_quiet_step (fail))); refine wpQuiet_nil ?_
                    intro LL w9 hL hC
                    obtain ⟨v9, O9, M9⟩ := hC.all (fun m hm => by simp at hm; exact hL m (by rcases hm with rfl | rfl | rfl | rfl <;> decide))
                    rw [show ([4, 8, 12, 22] : List Nat).length = 4 from rfl, hfin] at O9
                    have M19 := M1.trans M9
                    clear hC hL hG E0 hne
                    go_wp2_with fail
                    go_end0
                    exact ⟨rfl, v9, O9, M19⟩
/-- A sender's own words, as bytes. -/
def encS (c t p b : Int) : List Int := be4All (fun i => [c / 4294967296, c % 4294967296, t, p, b].getD i 0) 5
set_option maxRecDepth 8000 in
set_option maxHeartbeats 8000000 in
theorem sent_put (g : Nat) (bs : List Int) (v : Value) (c t p b : Int) (w : World) (h0 : OutAt w g bs v) (hl : bs.length ≤ 90000) (hc : 0 ≤ c ∧ c ≤ 1099511627776) (ht : U32 t) (hp : U32 p) (hb : U32 b) :
    Calls Try.prog 16 #[.agg #[.int .i64 c, .int .u32 t, .int .u32 p, .int .u32 b], .pointer (some ⟨g, 0, none⟩)] w fun e w' => e = .returned (.tuple #[]) ∧ ∃ v', OutAt w' g (bs ++ encS c t p b) v' ∧ MovedP w w' g v v' := by
  have K := Blk.new w 29 #[.int .i64 c, .int .u32 t, .int .u32 p, .int .u32 b]
  have B : Below w.heap.size w (w.alloc (.cells #[.int .i64 c, .int .u32 t, .int .u32 p, .int .u32 b] 29)) := (Below.refl _ w).alloc (Nat.le_refl _) _
  obtain ⟨x, hx⟩ : ∃ x, c / 4294967296 = x := ⟨_, rfl⟩
  obtain ⟨y, hy⟩ : ∃ y, c % 4294967296 = y := ⟨_, rfl⟩
  have x0 : 0 ≤ x ∧ x < 4294967296 := by omega
  have y0 : 0 ≤ y ∧ y < 4294967296 := by omega
  go_enter Try.func16, Try.ntmps16
  go_upto_region 1 with fail
  generalize w.alloc (.cells #[.int .i64 c, .int .u32 t, .int .u32 p, .int .u32 b] 29) = w1 at *
  have c1 := K.cell
  simp at c1
  go_wp2_with fail
  have K3 := Blk.new w1 27 #[.int .u32 x, .int .u32 y, .int .u32 t, .int .u32 p, .int .u32 b]
  have B3 : Below w1.heap.size w1 (w1.alloc (.cells #[.int .u32 x, .int .u32 y, .int .u32 t, .int .u32 p, .int .u32 b] 27)) := (Below.refl _ w1).alloc (Nat.le_refl _) _
  have O3 := (h0.below B).below B3
  refine (pen_OutU32 g bs v _ 5 5 (fun i => [x, y, t, p, b].getD i 0) _ O3 (by omega) (SliceOf.of_blk (cs := [.int .u32 x, .int .u32 y, .int .u32 t, .int .u32 p, .int .u32 b]) (n := 5) K3 (fun i => .int .u32 ([x, y, t, p, b].getD i 0)) rfl (by omega) (fun i hi => match i, hi with
    | 0, _ => rfl
    | 1, _ => rfl
    | 2, _ => rfl
    | 3, _ => rfl
    | 4, _ => rfl)) (fun i hi => match i, hi with
    | 0, _ => x0
    | 1, _ => y0
    | 2, _ => ht
    | 3, _ => hp
    | 4, _ => hb) (fun b off e => by injection e with e; injection e with e1 e2; subst e1; exact ⟨Blk.ne_ K3 O3.blk (by decide), own_ne_blk O3.own K3 (by decide)⟩)).mono ?_
  rintro e w4 ⟨rfl, v4, O4, M4⟩
  have M : MovedP w w4 g v v4 := ((MovedP.of_below B).trans (MovedP.of_below B3)).trans M4
  have O5 : OutAt w4 g (bs ++ encS c t p b) v4 := by unfold encS; rw [hx, hy]; exact O4
  clear O4 K K3 B B3 O3 h0
  go_wp2_with fail
  go_end0
  exact ⟨rfl, v4, O5, M⟩
end Go.Proofs.Ytolgdcchnmbmnaa
