/- Package subflow: may it be; as bytes. No condition but that the writer stands. (Printed by gen_sub1.py.) -/
import Derived.Test.YtliilcadlijnoaaPenW
namespace Go.Proofs.Ytliilcadlijnoaa
open Go.RowKit BigFrame
attribute [local go_sem ↓] Go.wp_at_zero Go.wp_at_succ

/-- A path that is there, or not. -/
structure AdR where
  p : Int
  u : Bool
  r : Int
/-- What is said of a path. -/
structure LnR where
  p : Int
  f : Int
  l : Int
  h : Int
  j : Int
  b : Int
  t : Int
  d : Int
def AdR.val (x : AdR) : Value := .agg #[.int .i64 x.p, .bool x.u, .int .i64 x.r]
def LnR.val (x : LnR) : Value := .agg #[.int .i64 x.p, .int .i64 x.f, .int .i64 x.l, .int .u32 x.h, .int .u32 x.j, .int .u32 x.b, .int .u32 x.t, .int .u32 x.d]
def AdR.may (x : AdR) : Bool := decide (1 ≤ x.p ∧ x.p ≤ 15 ∧ 0 ≤ x.r ∧ x.r ≤ 65535)
def LnR.may (x : LnR) : Bool := decide (1 ≤ x.p ∧ x.p ≤ 15 ∧ 0 ≤ x.f ∧ x.f ≤ 255 ∧ -8388608 ≤ x.l ∧ x.l ≤ 8388607)
theorem sub_within (n a b : Int) (z : Bool) (hz : decide (a ≤ n ∧ n ≤ b) = z) (w : World) :
    Calls Try.prog 56 #[.int .i64 n, .int .i64 a, .int .i64 b] w fun e w' => e = .returned (.bool z) ∧ w = w' := by
  by_cases h1 : a ≤ n
  · by_cases h2 : n ≤ b
    · have hz2 : z = true := by rw [← hz]; simp [h1, h2]
      subst hz2
      clear hz
      go_enter Try.func56, Try.ntmps56
      go_wp2_with fail
      go_ret
      exact ⟨rfl, rfl⟩
    · have hz2 : z = false := by rw [← hz]; simp [h2]
      subst hz2
      clear hz
      go_enter Try.func56, Try.ntmps56
      go_wp2_with fail
      go_ret
      exact ⟨rfl, rfl⟩
  · have hz2 : z = false := by rw [← hz]; simp [h1]
    subst hz2
    clear hz
    go_enter Try.func56, Try.ntmps56
    go_wp2_with fail
    go_ret
    exact ⟨rfl, rfl⟩
theorem ad_may (p : Int) (u : Bool) (r : Int) (z : Bool) (hz : AdR.may ⟨p, u, r⟩ = z) (w : World) :
    Calls Try.prog 54 #[.agg #[.int .i64 p, .bool u, .int .i64 r]] w fun e w' => e = .returned (.bool z) ∧ Below w.heap.size w w' := by
  have K := Blk.new w 31 #[.int .i64 p, .bool u, .int .i64 r]
  have B : Below w.heap.size w (w.alloc (.cells #[.int .i64 p, .bool u, .int .i64 r] 31)) := (Below.refl _ w).alloc (Nat.le_refl _) _
  obtain ⟨z1, h1⟩ : ∃ z, decide (1 ≤ p ∧ p ≤ 15) = z := ⟨_, rfl⟩
  obtain ⟨z2, h2⟩ : ∃ z, decide (0 ≤ r ∧ r ≤ 65535) = z := ⟨_, rfl⟩
  have hzz : z = (z1 && z2) := by rw [← hz, ← h1, ← h2]; unfold AdR.may; rw [← Bool.decide_and, decide_eq_decide]; simp only; omega
  have H1 := Lib.hid (fun W => sub_within p 1 15 z1 h1 W)
  have H2 := Lib.hid (fun W => sub_within r 0 65535 z2 h2 W)
  subst hzz
  clear hz h1 h2
  go_enter Try.func54, Try.ntmps54
  go_upto_region 1 with fail
  generalize w.alloc (.cells #[.int .i64 p, .bool u, .int .i64 r] 31) = w1 at *
  have c1 := K.cell
  simp at c1
  go_wp2_with fail
  refine (H1.out w1).mono ?_
  rintro e w2 ⟨rfl, rfl⟩
  cases z1
  · go_wp2_with fail
    go_ret
    exact ⟨rfl, B⟩
  · go_wp2_with fail
    refine (H2.out w1).mono ?_
    rintro e w2 ⟨rfl, rfl⟩
    go_wp2_with fail
    go_ret
    exact ⟨rfl, B⟩
theorem ln_may (p f l : Int) (h j b t d : Int) (z : Bool) (hz : LnR.may ⟨p, f, l, h, j, b, t, d⟩ = z) (w : World) :
    Calls Try.prog 61 #[.agg #[.int .i64 p, .int .i64 f, .int .i64 l, .int .u32 h, .int .u32 j, .int .u32 b, .int .u32 t, .int .u32 d]] w fun e w' => e = .returned (.bool z) ∧ Below w.heap.size w w' := by
  have K := Blk.new w 67 #[.int .i64 p, .int .i64 f, .int .i64 l, .int .u32 h, .int .u32 j, .int .u32 b, .int .u32 t, .int .u32 d]
  have B : Below w.heap.size w (w.alloc (.cells #[.int .i64 p, .int .i64 f, .int .i64 l, .int .u32 h, .int .u32 j, .int .u32 b, .int .u32 t, .int .u32 d] 67)) := (Below.refl _ w).alloc (Nat.le_refl _) _
  obtain ⟨z1, h1⟩ : ∃ z, decide (1 ≤ p ∧ p ≤ 15) = z := ⟨_, rfl⟩
  obtain ⟨z2, h2⟩ : ∃ z, decide (0 ≤ f ∧ f ≤ 255) = z := ⟨_, rfl⟩
  obtain ⟨z3, h3⟩ : ∃ z, decide (-8388608 ≤ l ∧ l ≤ 8388607) = z := ⟨_, rfl⟩
  have hzz : z = (z1 && (z2 && z3)) := by rw [← hz, ← h1, ← h2, ← h3]; unfold LnR.may; rw [← Bool.decide_and, ← Bool.decide_and, decide_eq_decide]; simp only; omega
  have H1 := Lib.hid (fun W => sub_within p 1 15 z1 h1 W)
  have H2 := Lib.hid (fun W => sub_within f 0 255 z2 h2 W)
  have H3 := Lib.hid (fun W => sub_within l (-8388608) 8388607 z3 h3 W)
  subst hzz
  clear hz h1 h2 h3
  go_enter Try.func61, Try.ntmps61
  go_upto_region 1 with fail
  generalize w.alloc (.cells #[.int .i64 p, .int .i64 f, .int .i64 l, .int .u32 h, .int .u32 j, .int .u32 b, .int .u32 t, .int .u32 d] 67) = w1 at *
  have c1 := K.cell
  simp at c1
  go_wp2_with fail
  refine (H1.out w1).mono ?_
  rintro e w2 ⟨rfl, rfl⟩
  cases z1
  · go_wp2_with fail
    go_ret
    exact ⟨rfl, B⟩
  · go_wp2_with fail
    refine (H2.out w1).mono ?_
    rintro e w2 ⟨rfl, rfl⟩
    cases z2
    · go_wp2_with fail
      go_ret
      exact ⟨rfl, B⟩
    · go_wp2_with fail
      refine (H3.out w1).mono ?_
      rintro e w2 ⟨rfl, rfl⟩
      go_wp2_with fail
      go_ret
      exact ⟨rfl, B⟩
/-- What stands behind some of a chain's calls. -/
def stL (bs : List Int) (l : List (List Int)) (k : Nat) : List Int := bs ++ (l.take k).flatMap id
theorem stL_succ (bs : List Int) (l : List (List Int)) (k : Nat) (x : List Int) (h : l[k]? = some x) : stL bs l (k + 1) = stL bs l k ++ x := by
  unfold stL; rw [List.take_add_one, h, List.flatMap_append, List.append_assoc]; simp
theorem stL_len (bs : List Int) (l : List (List Int)) (k : Nat) : (stL bs l k).length ≤ bs.length + (l.flatMap id).length := by
  unfold stL
  rw [List.length_append]
  have : ((l.take k).flatMap id).length ≤ (l.flatMap id).length := by
    conv => rhs; rw [← List.take_append_drop k l, List.flatMap_append, List.length_append]
    omega
  omega
/-- As bytes. -/
def encA (p uu : Int) (r : Int) : List (List Int) := [beAll (fun i => [p, uu].getD i 0) 1 2, beAll (fun i => [r].getD i 0) 2 1]
structure Gad_write (g : Nat) (q : Nat) (v : Value) : Prop where
  l0 : q = 4 → ∃ x, v = .slice (some ⟨x, 0, none⟩) 2 2
  c0 : q = 5 → v = .pointer (some ⟨g, 0, none⟩)
  l1 : q = 8 → ∃ x, v = .slice (some ⟨x, 0, none⟩) 1 1
  c1 : q = 9 → v = .pointer (some ⟨g, 0, none⟩)
set_option maxRecDepth 8000 in
set_option maxHeartbeats 8000000 in
theorem ad_write (g : Nat) (bs : List Int) (v : Value) (p : Int) (u : Bool) (r : Int) (uu : Int) (huu : (if u then 1 else 0) = uu) (w : World) (h0 : OutAt w g bs v) (hl : bs.length ≤ 90000) :
    Calls Try.prog 55 #[.agg #[.int .i64 p, .bool u, .int .i64 r], .pointer (some ⟨g, 0, none⟩)] w fun e w' => e = .returned (.tuple #[]) ∧ ∃ v', OutAt w' g (bs ++ (encA p uu r).flatMap id) v' ∧ MovedP w w' g v v' := by
  obtain ⟨PP, hPP⟩ : ∃ P, encA p uu r = P := ⟨_, rfl⟩
  have hPl : (PP.flatMap id).length ≤ 100 := by rw [← hPP]; unfold encA; simp [beAll_len, be4All_len]
  have hp0 : PP[0]? = some (beAll (fun i => [p, uu].getD i 0) 1 2) := by rw [← hPP]; rfl
  have hp1 : PP[1]? = some (beAll (fun i => [r].getD i 0) 2 1) := by rw [← hPP]; rfl
  have K := Blk.new w 31 #[.int .i64 p, .bool u, .int .i64 r]
  have B : Below w.heap.size w (w.alloc (.cells #[.int .i64 p, .bool u, .int .i64 r] 31)) := (Below.refl _ w).alloc (Nat.le_refl _) _
  have HS := fun k => stL_len bs PP k
  have hfin : stL bs PP 2 = bs ++ PP.flatMap id := by rw [← hPP]; rfl
  rw [hPP]
  clear hPP
  go_enter Try.func55, Try.ntmps55
  go_upto_region 1 with fail
  generalize w.alloc (.cells #[.int .i64 p, .bool u, .int .i64 r] 31) = w1 at *
  have H1 := h0.below B
  have M1 : MovedP w w1 g v v := MovedP.of_below B
  have c1 := K.cell
  simp at c1
  cases u
  · obtain rfl : 0 = uu := by simpa using huu
    clear huu
    go_upto_region 4 with fail
    have H1' : OutAt w1 g (stL bs PP 0) v := by unfold stL; simpa using H1
    have E0 := fun (gw : UWF (PenW w1 g v (stL bs PP) [5, 9] [(4, 3, [.int .i64 p, .int .i64 0]), (8, 3, [.int .i64 r])])) => (gw.holds.blk H1' K (by decide) (by decide)).cell
    simp at E0
    have hne : Nonempty (UWF (PenW w1 g v (stL bs PP) [5, 9] [(4, 3, [.int .i64 p, .int .i64 0]), (8, 3, [.int .i64 r])])) := PenW.ne H1'
    have hPL := Lib.hid hPl
    have HPS := Lib.hid HS
    clear c1 hPl HS
    refine wp_region_free [(0, 4, some 4), (5, 0, some 5), (6, 2, some 8), (9, 0, some 9), (10, 0, none)] (PenW w1 g v (stL bs PP) [5, 9] [(4, 3, [.int .i64 p, .int .i64 0]), (8, 3, [.int .i64 r])]) (Gad_write g) (fun q => if q = 4 then .slice (some ⟨0, 0, none⟩) 2 2 else if q = 8 then .slice (some ⟨0, 0, none⟩) 1 1 else .pointer (some ⟨g, 0, none⟩)) (by kernel_rfl) (by kernel_rfl) ?_ ?_ ?_ ?_
    · intro z hz LL G W hC
      simp [moversI] at hz
      exact hC.quiet (by simp; omega) (by simp; omega)
    · exact PenW.start H1' _
    · intro z
      exact ⟨fun e => by subst e; exact ⟨0, rfl⟩, fun e => by subst e; rfl, fun e => by subst e; exact ⟨0, rfl⟩, fun e => by subst e; rfl⟩
    · intro G hG
      obtain ⟨x0, g4⟩ := (hG 4).l0 rfl
      have k5 := (hG 5).c0 rfl
      obtain ⟨x1, g8⟩ := (hG 8).l1 rfl
      have k9 := (hG 9).c1 rfl
      simp only [walkF, List.drop_zero, List.drop_succ_cons, List.take_succ_cons, List.take_zero, List.toList_toArray]; (repeat (go_big_quiet_step (fail))); refine wpQuiet_nil ?_
      refine ⟨_, _, _, _, _, _, rfl, .inl ⟨rfl, ?_, ?_⟩⟩
      · intro LL W hL hA hC
        refine ⟨?_⟩; go_simp; simp only [movesToUpon]
        exact ⟨⟨fun _ => ⟨_, rfl⟩, (fun e => by cases e), (fun e => by cases e), (fun e => by cases e)⟩, hC.made (n := 2) (by simp) (by simp) (by simp) rfl⟩
      · intro K' hK'; dsimp only at hK'; rw [g4]; go_big_quiet_op; go_big_quiet_on; (repeat (go_big_quiet_step (fail))); refine wpQuiet_nil ?_
        refine ⟨_, _, _, _, _, _, rfl, .inl ⟨rfl, ?_, ?_⟩⟩
        · intro LL W hL hA hC
          obtain ⟨v1, O1, M0⟩ := hC.at 0 5 rfl hL (fun m' e _ => absurd e (by omega))
          have KL := hC.at_lit (m := 4) (t := 3) (cs := [.int .i64 p, .int .i64 0]) (by simp) (hA 4 (by kernel_rfl)) g4
          refine ⟨?_⟩; go_simp; simp only [movesToUpon]
          refine (pen_U8 g _ v1 _ 2 2 (fun i => [p, 0].getD i 0) W O1 (by have h1 := HPS.out 0; have h2 := hPL.out; omega) (SliceOf.of_blk (n := 2) KL (fun i => .int .i64 ([p, 0].getD i 0)) rfl (by omega) (fun i hi => by match i, hi with
              | 0, _ => rfl
              | 1, _ => rfl
              )) (fun b off e => by injection e with e; injection e with e1 e2; subst e1; exact ⟨Blk.ne_ KL O1.blk (by decide), own_ne_blk O1.own KL (by decide)⟩)).mono ?_
          rintro e w' ⟨rfl, v2, O2, M2⟩
          refine ⟨_, rfl, ⟨(fun e => by cases e), fun _ => rfl, (fun e => by cases e), (fun e => by cases e)⟩, hC.call (by decide) 0 5 rfl hL (fun m' e _ => absurd e (by omega)) (fun a ha => by simp at ha; rcases ha with rfl | rfl <;> simp) O1 M0 (by rw [stL_succ _ _ _ _ hp0]; exact O2) M2 _⟩
        · intro K' hK'; dsimp only at hK'; rw [k5]; go_big_quiet_op; go_big_quiet_on; (repeat (go_big_quiet_step (fail))); refine wpQuiet_nil ?_
          refine ⟨_, _, _, _, _, _, rfl, .inl ⟨rfl, ?_, ?_⟩⟩
          · intro LL W hL hA hC
            refine ⟨?_⟩; go_simp; simp only [movesToUpon]
            exact ⟨⟨(fun e => by cases e), (fun e => by cases e), fun _ => ⟨_, rfl⟩, (fun e => by cases e)⟩, hC.made (n := 1) (by simp) (by simp) (by simp) rfl⟩
          · intro K' hK'; dsimp only at hK'; rw [g8]; go_big_quiet_op; go_big_quiet_on; (repeat (go_big_quiet_step (fail))); refine wpQuiet_nil ?_
            refine ⟨_, _, _, _, _, _, rfl, .inl ⟨rfl, ?_, ?_⟩⟩
            · intro LL W hL hA hC
              obtain ⟨v1, O1, M0⟩ := hC.at 1 9 rfl hL (fun m' _ e => by simp at e; subst e; exact hA 5 (by kernel_rfl))
              have KL := hC.at_lit (m := 8) (t := 3) (cs := [.int .i64 r]) (by simp) (hA 8 (by kernel_rfl)) g8
              refine ⟨?_⟩; go_simp; simp only [movesToUpon]
              refine (pen_U16 g _ v1 _ 1 1 (fun i => [r].getD i 0) W O1 (by have h1 := HPS.out 1; have h2 := hPL.out; omega) (SliceOf.of_blk (n := 1) KL (fun i => .int .i64 ([r].getD i 0)) rfl (by omega) (fun i hi => by match i, hi with
                  | 0, _ => rfl
                  )) (fun b off e => by injection e with e; injection e with e1 e2; subst e1; exact ⟨Blk.ne_ KL O1.blk (by decide), own_ne_blk O1.own KL (by decide)⟩)).mono ?_
              rintro e w' ⟨rfl, v2, O2, M2⟩
              refine ⟨_, rfl, ⟨(fun e => by cases e), (fun e => by cases e), (fun e => by cases e), fun _ => rfl⟩, hC.call (by decide) 1 9 rfl hL (fun m' _ e => by simp at e; subst e; exact hA 5 (by kernel_rfl)) (fun a ha => by simp at ha; rcases ha with rfl | rfl <;> simp) O1 M0 (by rw [stL_succ _ _ _ _ hp1]; exact O2) M2 _⟩
            · intro K' hK'; dsimp only at hK'; rw [k9]; go_big_quiet_op; go_big_quiet_on; (repeat (go_big_quiet_step (fail))); refine wpQuiet_nil ?_
              intro LL w9 hL hC
              obtain ⟨v9, O9, M9⟩ := hC.all (fun m hm => by simp at hm; exact hL m (by rcases hm with rfl | rfl <;> decide))
              rw [show ([5, 9] : List Nat).length = 2 from rfl, hfin] at O9
              have M19 := M1.trans M9
              clear hC hL hG E0 hne
              go_wp2_with fail
              go_end0
              exact ⟨rfl, v9, O9, M19⟩
  · obtain rfl : 1 = uu := by simpa using huu
    clear huu
    go_upto_region 4 with fail
    have H1' : OutAt w1 g (stL bs PP 0) v := by unfold stL; simpa using H1
    have E0 := fun (gw : UWF (PenW w1 g v (stL bs PP) [5, 9] [(4, 3, [.int .i64 p, .int .i64 1]), (8, 3, [.int .i64 r])])) => (gw.holds.blk H1' K (by decide) (by decide)).cell
    simp at E0
    have hne : Nonempty (UWF (PenW w1 g v (stL bs PP) [5, 9] [(4, 3, [.int .i64 p, .int .i64 1]), (8, 3, [.int .i64 r])])) := PenW.ne H1'
    have hPL := Lib.hid hPl
    have HPS := Lib.hid HS
    clear c1 hPl HS
    refine wp_region_free [(0, 4, some 4), (5, 0, some 5), (6, 2, some 8), (9, 0, some 9), (10, 0, none)] (PenW w1 g v (stL bs PP) [5, 9] [(4, 3, [.int .i64 p, .int .i64 1]), (8, 3, [.int .i64 r])]) (Gad_write g) (fun q => if q = 4 then .slice (some ⟨0, 0, none⟩) 2 2 else if q = 8 then .slice (some ⟨0, 0, none⟩) 1 1 else .pointer (some ⟨g, 0, none⟩)) (by kernel_rfl) (by kernel_rfl) ?_ ?_ ?_ ?_
    · intro z hz LL G W hC
      simp [moversI] at hz
      exact hC.quiet (by simp; omega) (by simp; omega)
    · exact PenW.start H1' _
    · intro z
      exact ⟨fun e => by subst e; exact ⟨0, rfl⟩, fun e => by subst e; rfl, fun e => by subst e; exact ⟨0, rfl⟩, fun e => by subst e; rfl⟩
    · intro G hG
      obtain ⟨x0, g4⟩ := (hG 4).l0 rfl
      have k5 := (hG 5).c0 rfl
      obtain ⟨x1, g8⟩ := (hG 8).l1 rfl
      have k9 := (hG 9).c1 rfl
      simp only [walkF, List.drop_zero, List.drop_succ_cons, List.take_succ_cons, List.take_zero, List.toList_toArray]; (repeat (go_big_quiet_step (fail))); refine wpQuiet_nil ?_
      refine ⟨_, _, _, _, _, _, rfl, .inl ⟨rfl, ?_, ?_⟩⟩
      · intro LL W hL hA hC
        refine ⟨?_⟩; go_simp; simp only [movesToUpon]
        exact ⟨⟨fun _ => ⟨_, rfl⟩, (fun e => by cases e), (fun e => by cases e), (fun e => by cases e)⟩, hC.made (n := 2) (by simp) (by simp) (by simp) rfl⟩
      · intro K' hK'; dsimp only at hK'; rw [g4]; go_big_quiet_op; go_big_quiet_on; (repeat (go_big_quiet_step (fail))); refine wpQuiet_nil ?_
        refine ⟨_, _, _, _, _, _, rfl, .inl ⟨rfl, ?_, ?_⟩⟩
        · intro LL W hL hA hC
          obtain ⟨v1, O1, M0⟩ := hC.at 0 5 rfl hL (fun m' e _ => absurd e (by omega))
          have KL := hC.at_lit (m := 4) (t := 3) (cs := [.int .i64 p, .int .i64 1]) (by simp) (hA 4 (by kernel_rfl)) g4
          refine ⟨?_⟩; go_simp; simp only [movesToUpon]
          refine (pen_U8 g _ v1 _ 2 2 (fun i => [p, 1].getD i 0) W O1 (by have h1 := HPS.out 0; have h2 := hPL.out; omega) (SliceOf.of_blk (n := 2) KL (fun i => .int .i64 ([p, 1].getD i 0)) rfl (by omega) (fun i hi => by match i, hi with
              | 0, _ => rfl
              | 1, _ => rfl
              )) (fun b off e => by injection e with e; injection e with e1 e2; subst e1; exact ⟨Blk.ne_ KL O1.blk (by decide), own_ne_blk O1.own KL (by decide)⟩)).mono ?_
          rintro e w' ⟨rfl, v2, O2, M2⟩
          refine ⟨_, rfl, ⟨(fun e => by cases e), fun _ => rfl, (fun e => by cases e), (fun e => by cases e)⟩, hC.call (by decide) 0 5 rfl hL (fun m' e _ => absurd e (by omega)) (fun a ha => by simp at ha; rcases ha with rfl | rfl <;> simp) O1 M0 (by rw [stL_succ _ _ _ _ hp0]; exact O2) M2 _⟩
        · intro K' hK'; dsimp only at hK'; rw [k5]; go_big_quiet_op; go_big_quiet_on; (repeat (go_big_quiet_step (fail))); refine wpQuiet_nil ?_
          refine ⟨_, _, _, _, _, _, rfl, .inl ⟨rfl, ?_, ?_⟩⟩
          · intro LL W hL hA hC
            refine ⟨?_⟩; go_simp; simp only [movesToUpon]
            exact ⟨⟨(fun e => by cases e), (fun e => by cases e), fun _ => ⟨_, rfl⟩, (fun e => by cases e)⟩, hC.made (n := 1) (by simp) (by simp) (by simp) rfl⟩
          · intro K' hK'; dsimp only at hK'; rw [g8]; go_big_quiet_op; go_big_quiet_on; (repeat (go_big_quiet_step (fail))); refine wpQuiet_nil ?_
            refine ⟨_, _, _, _, _, _, rfl, .inl ⟨rfl, ?_, ?_⟩⟩
            · intro LL W hL hA hC
              obtain ⟨v1, O1, M0⟩ := hC.at 1 9 rfl hL (fun m' _ e => by simp at e; subst e; exact hA 5 (by kernel_rfl))
              have KL := hC.at_lit (m := 8) (t := 3) (cs := [.int .i64 r]) (by simp) (hA 8 (by kernel_rfl)) g8
              refine ⟨?_⟩; go_simp; simp only [movesToUpon]
              refine (pen_U16 g _ v1 _ 1 1 (fun i => [r].getD i 0) W O1 (by have h1 := HPS.out 1; have h2 := hPL.out; omega) (SliceOf.of_blk (n := 1) KL (fun i => .int .i64 ([r].getD i 0)) rfl (by omega) (fun i hi => by match i, hi with
                  | 0, _ => rfl
                  )) (fun b off e => by injection e with e; injection e with e1 e2; subst e1; exact ⟨Blk.ne_ KL O1.blk (by decide), own_ne_blk O1.own KL (by decide)⟩)).mono ?_
              rintro e w' ⟨rfl, v2, O2, M2⟩
              refine ⟨_, rfl, ⟨(fun e => by cases e), (fun e => by cases e), (fun e => by cases e), fun _ => rfl⟩, hC.call (by decide) 1 9 rfl hL (fun m' _ e => by simp at e; subst e; exact hA 5 (by kernel_rfl)) (fun a ha => by simp at ha; rcases ha with rfl | rfl <;> simp) O1 M0 (by rw [stL_succ _ _ _ _ hp1]; exact O2) M2 _⟩
            · intro K' hK'; dsimp only at hK'; rw [k9]; go_big_quiet_op; go_big_quiet_on; (repeat (go_big_quiet_step (fail))); refine wpQuiet_nil ?_
              intro LL w9 hL hC
              obtain ⟨v9, O9, M9⟩ := hC.all (fun m hm => by simp at hm; exact hL m (by rcases hm with rfl | rfl <;> decide))
              rw [show ([5, 9] : List Nat).length = 2 from rfl, hfin] at O9
              have M19 := M1.trans M9
              clear hC hL hG E0 hne
              go_wp2_with fail
              go_end0
              exact ⟨rfl, v9, O9, M19⟩
/-- As bytes. -/
def encL (p f l : Int) (h j b t d : Int) : List (List Int) := [beAll (fun i => [p, f].getD i 0) 1 2, beAll (fun i => [0].getD i 0) 2 1, beAll (fun i => [l].getD i 0) 3 1, beAll (fun i => [0].getD i 0) 1 1, be4All (fun i => [h, j, b, t, d].getD i 0) 5]
structure Gln_write (g : Nat) (q : Nat) (v : Value) : Prop where
  l0 : q = 5 → ∃ x, v = .slice (some ⟨x, 0, none⟩) 2 2
  c0 : q = 6 → v = .pointer (some ⟨g, 0, none⟩)
  l1 : q = 7 → ∃ x, v = .slice (some ⟨x, 0, none⟩) 1 1
  c1 : q = 8 → v = .pointer (some ⟨g, 0, none⟩)
  l2 : q = 11 → ∃ x, v = .slice (some ⟨x, 0, none⟩) 1 1
  c2 : q = 12 → v = .pointer (some ⟨g, 0, none⟩)
  l3 : q = 13 → ∃ x, v = .slice (some ⟨x, 0, none⟩) 1 1
  c3 : q = 14 → v = .pointer (some ⟨g, 0, none⟩)
  l4 : q = 25 → ∃ x, v = .slice (some ⟨x, 0, none⟩) 5 5
  c4 : q = 26 → v = .pointer (some ⟨g, 0, none⟩)
set_option maxRecDepth 8000 in
set_option maxHeartbeats 8000000 in
theorem ln_write (g : Nat) (bs : List Int) (v : Value) (p f l : Int) (h j b t d : Int) (w : World) (h0 : OutAt w g bs v) (hl : bs.length ≤ 90000) (hu : (0 ≤ h ∧ h < 4294967296) ∧ (0 ≤ j ∧ j < 4294967296) ∧ (0 ≤ b ∧ b < 4294967296) ∧ (0 ≤ t ∧ t < 4294967296) ∧ (0 ≤ d ∧ d < 4294967296)) :
    Calls Try.prog 62 #[.agg #[.int .i64 p, .int .i64 f, .int .i64 l, .int .u32 h, .int .u32 j, .int .u32 b, .int .u32 t, .int .u32 d], .pointer (some ⟨g, 0, none⟩)] w fun e w' => e = .returned (.tuple #[]) ∧ ∃ v', OutAt w' g (bs ++ (encL p f l h j b t d).flatMap id) v' ∧ MovedP w w' g v v' := by
  obtain ⟨PP, hPP⟩ : ∃ P, encL p f l h j b t d = P := ⟨_, rfl⟩
  have hPl : (PP.flatMap id).length ≤ 100 := by rw [← hPP]; unfold encL; simp [beAll_len, be4All_len]
  have hp0 : PP[0]? = some (beAll (fun i => [p, f].getD i 0) 1 2) := by rw [← hPP]; rfl
  have hp1 : PP[1]? = some (beAll (fun i => [0].getD i 0) 2 1) := by rw [← hPP]; rfl
  have hp2 : PP[2]? = some (beAll (fun i => [l].getD i 0) 3 1) := by rw [← hPP]; rfl
  have hp3 : PP[3]? = some (beAll (fun i => [0].getD i 0) 1 1) := by rw [← hPP]; rfl
  have hp4 : PP[4]? = some (be4All (fun i => [h, j, b, t, d].getD i 0) 5) := by rw [← hPP]; rfl
  have K := Blk.new w 67 #[.int .i64 p, .int .i64 f, .int .i64 l, .int .u32 h, .int .u32 j, .int .u32 b, .int .u32 t, .int .u32 d]
  have B : Below w.heap.size w (w.alloc (.cells #[.int .i64 p, .int .i64 f, .int .i64 l, .int .u32 h, .int .u32 j, .int .u32 b, .int .u32 t, .int .u32 d] 67)) := (Below.refl _ w).alloc (Nat.le_refl _) _
  have HS := fun k => stL_len bs PP k
  have hfin : stL bs PP 5 = bs ++ PP.flatMap id := by rw [← hPP]; rfl
  rw [hPP]
  clear hPP
  have hu := Lib.hid hu
  go_enter Try.func62, Try.ntmps62
  go_upto_region 1 with fail
  generalize w.alloc (.cells #[.int .i64 p, .int .i64 f, .int .i64 l, .int .u32 h, .int .u32 j, .int .u32 b, .int .u32 t, .int .u32 d] 67) = w1 at *
  have H1 := h0.below B
  have M1 : MovedP w w1 g v v := MovedP.of_below B
  have c1 := K.cell
  simp at c1
  go_upto_region 1 with fail
  have H1' : OutAt w1 g (stL bs PP 0) v := by unfold stL; simpa using H1
  have E0 := fun (gw : UWF (PenW w1 g v (stL bs PP) [6, 8, 12, 14, 26] [(5, 3, [.int .i64 p, .int .i64 f]), (7, 3, [.int .i64 0]), (11, 3, [.int .i64 l]), (13, 3, [.int .i64 0]), (25, 22, [.int .u32 h, .int .u32 j, .int .u32 b, .int .u32 t, .int .u32 d])])) => (gw.holds.blk H1' K (by decide) (by decide)).cell
  simp at E0
  have hne : Nonempty (UWF (PenW w1 g v (stL bs PP) [6, 8, 12, 14, 26] [(5, 3, [.int .i64 p, .int .i64 f]), (7, 3, [.int .i64 0]), (11, 3, [.int .i64 l]), (13, 3, [.int .i64 0]), (25, 22, [.int .u32 h, .int .u32 j, .int .u32 b, .int .u32 t, .int .u32 d])])) := PenW.ne H1'
  have hPL := Lib.hid hPl
  have HPS := Lib.hid HS
  clear c1 hPl HS
  refine wp_region_free [(0, 5, some 5), (6, 0, some 6), (7, 0, some 7), (8, 0, some 8), (9, 2, some 11), (12, 0, some 12), (13, 0, some 13), (14, 0, some 14), (15, 10, some 25), (26, 0, some 26), (27, 0, none)] (PenW w1 g v (stL bs PP) [6, 8, 12, 14, 26] [(5, 3, [.int .i64 p, .int .i64 f]), (7, 3, [.int .i64 0]), (11, 3, [.int .i64 l]), (13, 3, [.int .i64 0]), (25, 22, [.int .u32 h, .int .u32 j, .int .u32 b, .int .u32 t, .int .u32 d])]) (Gln_write g) (fun q => if q = 5 then .slice (some ⟨0, 0, none⟩) 2 2 else if q = 7 then .slice (some ⟨0, 0, none⟩) 1 1 else if q = 11 then .slice (some ⟨0, 0, none⟩) 1 1 else if q = 13 then .slice (some ⟨0, 0, none⟩) 1 1 else if q = 25 then .slice (some ⟨0, 0, none⟩) 5 5 else .pointer (some ⟨g, 0, none⟩)) (by kernel_rfl) (by kernel_rfl) ?_ ?_ ?_ ?_
  · intro z hz LL G W hC
    simp [moversI] at hz
    exact hC.quiet (by simp; omega) (by simp; omega)
  · exact PenW.start H1' _
  · intro z
    exact ⟨fun e => by subst e; exact ⟨0, rfl⟩, fun e => by subst e; rfl, fun e => by subst e; exact ⟨0, rfl⟩, fun e => by subst e; rfl, fun e => by subst e; exact ⟨0, rfl⟩, fun e => by subst e; rfl, fun e => by subst e; exact ⟨0, rfl⟩, fun e => by subst e; rfl, fun e => by subst e; exact ⟨0, rfl⟩, fun e => by subst e; rfl⟩
  · intro G hG
    obtain ⟨x0, g5⟩ := (hG 5).l0 rfl
    have k6 := (hG 6).c0 rfl
    obtain ⟨x1, g7⟩ := (hG 7).l1 rfl
    have k8 := (hG 8).c1 rfl
    obtain ⟨x2, g11⟩ := (hG 11).l2 rfl
    have k12 := (hG 12).c2 rfl
    obtain ⟨x3, g13⟩ := (hG 13).l3 rfl
    have k14 := (hG 14).c3 rfl
    obtain ⟨x4, g25⟩ := (hG 25).l4 rfl
    have k26 := (hG 26).c4 rfl
    simp only [walkF, List.drop_zero, List.drop_succ_cons, List.take_succ_cons, List.take_zero, List.toList_toArray]; (repeat (go_big_quiet_step (fail))); refine wpQuiet_nil ?_
    refine ⟨_, _, _, _, _, _, rfl, .inl ⟨rfl, ?_, ?_⟩⟩
    · intro LL W hL hA hC
      refine ⟨?_⟩; go_simp; simp only [movesToUpon]
      exact ⟨⟨fun _ => ⟨_, rfl⟩, (fun e => by cases e), (fun e => by cases e), (fun e => by cases e), (fun e => by cases e), (fun e => by cases e), (fun e => by cases e), (fun e => by cases e), (fun e => by cases e), (fun e => by cases e)⟩, hC.made (n := 2) (by simp) (by simp) (by simp) rfl⟩
    · intro K' hK'; dsimp only at hK'; rw [g5]; go_big_quiet_op; go_big_quiet_on; (repeat (go_big_quiet_step (fail))); refine wpQuiet_nil ?_
      refine ⟨_, _, _, _, _, _, rfl, .inl ⟨rfl, ?_, ?_⟩⟩
      · intro LL W hL hA hC
        obtain ⟨v1, O1, M0⟩ := hC.at 0 6 rfl hL (fun m' e _ => absurd e (by omega))
        have KL := hC.at_lit (m := 5) (t := 3) (cs := [.int .i64 p, .int .i64 f]) (by simp) (hA 5 (by kernel_rfl)) g5
        refine ⟨?_⟩; go_simp; simp only [movesToUpon]
        refine (pen_U8 g _ v1 _ 2 2 (fun i => [p, f].getD i 0) W O1 (by have h1 := HPS.out 0; have h2 := hPL.out; omega) (SliceOf.of_blk (n := 2) KL (fun i => .int .i64 ([p, f].getD i 0)) rfl (by omega) (fun i hi => by match i, hi with
            | 0, _ => rfl
            | 1, _ => rfl
            )) (fun b off e => by injection e with e; injection e with e1 e2; subst e1; exact ⟨Blk.ne_ KL O1.blk (by decide), own_ne_blk O1.own KL (by decide)⟩)).mono ?_
        rintro e w' ⟨rfl, v2, O2, M2⟩
        refine ⟨_, rfl, ⟨(fun e => by cases e), fun _ => rfl, (fun e => by cases e), (fun e => by cases e), (fun e => by cases e), (fun e => by cases e), (fun e => by cases e), (fun e => by cases e), (fun e => by cases e), (fun e => by cases e)⟩, hC.call (by decide) 0 6 rfl hL (fun m' e _ => absurd e (by omega)) (fun a ha => by simp at ha; rcases ha with rfl | rfl | rfl | rfl | rfl <;> simp) O1 M0 (by rw [stL_succ _ _ _ _ hp0]; exact O2) M2 _⟩
      · intro K' hK'; dsimp only at hK'; rw [k6]; go_big_quiet_op; go_big_quiet_on; (repeat (go_big_quiet_step (fail))); refine wpQuiet_nil ?_
        refine ⟨_, _, _, _, _, _, rfl, .inl ⟨rfl, ?_, ?_⟩⟩
        · intro LL W hL hA hC
          refine ⟨?_⟩; go_simp; simp only [movesToUpon]
          exact ⟨⟨(fun e => by cases e), (fun e => by cases e), fun _ => ⟨_, rfl⟩, (fun e => by cases e), (fun e => by cases e), (fun e => by cases e), (fun e => by cases e), (fun e => by cases e), (fun e => by cases e), (fun e => by cases e)⟩, hC.made (n := 1) (by simp) (by simp) (by simp) rfl⟩
        · intro K' hK'; dsimp only at hK'; rw [g7]; go_big_quiet_op; go_big_quiet_on; (repeat (go_big_quiet_step (fail))); refine wpQuiet_nil ?_
          refine ⟨_, _, _, _, _, _, rfl, .inl ⟨rfl, ?_, ?_⟩⟩
          · intro LL W hL hA hC
            obtain ⟨v1, O1, M0⟩ := hC.at 1 8 rfl hL (fun m' _ e => by simp at e; subst e; exact hA 6 (by kernel_rfl))
            have KL := hC.at_lit (m := 7) (t := 3) (cs := [.int .i64 0]) (by simp) (hA 7 (by kernel_rfl)) g7
            refine ⟨?_⟩; go_simp; simp only [movesToUpon]
            refine (pen_U16 g _ v1 _ 1 1 (fun i => [0].getD i 0) W O1 (by have h1 := HPS.out 1; have h2 := hPL.out; omega) (SliceOf.of_blk (n := 1) KL (fun i => .int .i64 ([0].getD i 0)) rfl (by omega) (fun i hi => by match i, hi with
                | 0, _ => rfl
                )) (fun b off e => by injection e with e; injection e with e1 e2; subst e1; exact ⟨Blk.ne_ KL O1.blk (by decide), own_ne_blk O1.own KL (by decide)⟩)).mono ?_
            rintro e w' ⟨rfl, v2, O2, M2⟩
            refine ⟨_, rfl, ⟨(fun e => by cases e), (fun e => by cases e), (fun e => by cases e), fun _ => rfl, (fun e => by cases e), (fun e => by cases e), (fun e => by cases e), (fun e => by cases e), (fun e => by cases e), (fun e => by cases e)⟩, hC.call (by decide) 1 8 rfl hL (fun m' _ e => by simp at e; subst e; exact hA 6 (by kernel_rfl)) (fun a ha => by simp at ha; rcases ha with rfl | rfl | rfl | rfl | rfl <;> simp) O1 M0 (by rw [stL_succ _ _ _ _ hp1]; exact O2) M2 _⟩
          · intro K' hK'; dsimp only at hK'; rw [k8]; go_big_quiet_op; go_big_quiet_on; (repeat (go_big_quiet_step (fail))); refine wpQuiet_nil ?_
            refine ⟨_, _, _, _, _, _, rfl, .inl ⟨rfl, ?_, ?_⟩⟩
            · intro LL W hL hA hC
              refine ⟨?_⟩; go_simp; simp only [movesToUpon]
              exact ⟨⟨(fun e => by cases e), (fun e => by cases e), (fun e => by cases e), (fun e => by cases e), fun _ => ⟨_, rfl⟩, (fun e => by cases e), (fun e => by cases e), (fun e => by cases e), (fun e => by cases e), (fun e => by cases e)⟩, hC.made (n := 1) (by simp) (by simp) (by simp) rfl⟩
            · intro K' hK'; dsimp only at hK'; rw [g11]; go_big_quiet_op; go_big_quiet_on; (repeat (go_big_quiet_step (fail))); refine wpQuiet_nil ?_
              refine ⟨_, _, _, _, _, _, rfl, .inl ⟨rfl, ?_, ?_⟩⟩
              · intro LL W hL hA hC
                obtain ⟨v1, O1, M0⟩ := hC.at 2 12 rfl hL (fun m' _ e => by simp at e; subst e; exact hA 8 (by kernel_rfl))
                have KL := hC.at_lit (m := 11) (t := 3) (cs := [.int .i64 l]) (by simp) (hA 11 (by kernel_rfl)) g11
                refine ⟨?_⟩; go_simp; simp only [movesToUpon]
                refine (pen_U24 g _ v1 _ 1 1 (fun i => [l].getD i 0) W O1 (by have h1 := HPS.out 2; have h2 := hPL.out; omega) (SliceOf.of_blk (n := 1) KL (fun i => .int .i64 ([l].getD i 0)) rfl (by omega) (fun i hi => by match i, hi with
                    | 0, _ => rfl
                    )) (fun b off e => by injection e with e; injection e with e1 e2; subst e1; exact ⟨Blk.ne_ KL O1.blk (by decide), own_ne_blk O1.own KL (by decide)⟩)).mono ?_
                rintro e w' ⟨rfl, v2, O2, M2⟩
                refine ⟨_, rfl, ⟨(fun e => by cases e), (fun e => by cases e), (fun e => by cases e), (fun e => by cases e), (fun e => by cases e), fun _ => rfl, (fun e => by cases e), (fun e => by cases e), (fun e => by cases e), (fun e => by cases e)⟩, hC.call (by decide) 2 12 rfl hL (fun m' _ e => by simp at e; subst e; exact hA 8 (by kernel_rfl)) (fun a ha => by simp at ha; rcases ha with rfl | rfl | rfl | rfl | rfl <;> simp) O1 M0 (by rw [stL_succ _ _ _ _ hp2]; exact O2) M2 _⟩
              · intro K' hK'; dsimp only at hK'; rw [k12]; go_big_quiet_op; go_big_quiet_on; (repeat (go_big_quiet_step (fail))); refine wpQuiet_nil ?_
                refine ⟨_, _, _, _, _, _, rfl, .inl ⟨rfl, ?_, ?_⟩⟩
                · intro LL W hL hA hC
                  refine ⟨?_⟩; go_simp; simp only [movesToUpon]
                  exact ⟨⟨(fun e => by cases e), (fun e => by cases e), (fun e => by cases e), (fun e => by cases e), (fun e => by cases e), (fun e => by cases e), fun _ => ⟨_, rfl⟩, (fun e => by cases e), (fun e => by cases e), (fun e => by cases e)⟩, hC.made (n := 1) (by simp) (by simp) (by simp) rfl⟩
                · intro K' hK'; dsimp only at hK'; rw [g13]; go_big_quiet_op; go_big_quiet_on; (repeat (go_big_quiet_step (fail))); refine wpQuiet_nil ?_
                  refine ⟨_, _, _, _, _, _, rfl, .inl ⟨rfl, ?_, ?_⟩⟩
                  · intro LL W hL hA hC
                    obtain ⟨v1, O1, M0⟩ := hC.at 3 14 rfl hL (fun m' _ e => by simp at e; subst e; exact hA 12 (by kernel_rfl))
                    have KL := hC.at_lit (m := 13) (t := 3) (cs := [.int .i64 0]) (by simp) (hA 13 (by kernel_rfl)) g13
                    refine ⟨?_⟩; go_simp; simp only [movesToUpon]
                    refine (pen_U8 g _ v1 _ 1 1 (fun i => [0].getD i 0) W O1 (by have h1 := HPS.out 3; have h2 := hPL.out; omega) (SliceOf.of_blk (n := 1) KL (fun i => .int .i64 ([0].getD i 0)) rfl (by omega) (fun i hi => by match i, hi with
                        | 0, _ => rfl
                        )) (fun b off e => by injection e with e; injection e with e1 e2; subst e1; exact ⟨Blk.ne_ KL O1.blk (by decide), own_ne_blk O1.own KL (by decide)⟩)).mono ?_
                    rintro e w' ⟨rfl, v2, O2, M2⟩
                    refine ⟨_, rfl, ⟨(fun e => by cases e), (fun e => by cases e), (fun e => by cases e), (fun e => by cases e), (fun e => by cases e), (fun e => by cases e), (fun e => by cases e), fun _ => rfl, (fun e => by cases e), (fun e => by cases e)⟩, hC.call (by decide) 3 14 rfl hL (fun m' _ e => by simp at e; subst e; exact hA 12 (by kernel_rfl)) (fun a ha => by simp at ha; rcases ha with rfl | rfl | rfl | rfl | rfl <;> simp) O1 M0 (by rw [stL_succ _ _ _ _ hp3]; exact O2) M2 _⟩
                  · intro K' hK'; dsimp only at hK'; rw [k14]; go_big_quiet_op; go_big_quiet_on; (repeat (go_big_quiet_step (fail))); refine wpQuiet_nil ?_
                    refine ⟨_, _, _, _, _, _, rfl, .inl ⟨rfl, ?_, ?_⟩⟩
                    · intro LL W hL hA hC
                      refine ⟨?_⟩; go_simp; simp only [movesToUpon]
                      exact ⟨⟨(fun e => by cases e), (fun e => by cases e), (fun e => by cases e), (fun e => by cases e), (fun e => by cases e), (fun e => by cases e), (fun e => by cases e), (fun e => by cases e), fun _ => ⟨_, rfl⟩, (fun e => by cases e)⟩, hC.made (n := 5) (by simp) (by simp) (by simp) rfl⟩
                    · intro K' hK'; dsimp only at hK'; rw [g25]; go_big_quiet_op; go_big_quiet_on; (repeat (go_big_quiet_step (fail))); refine wpQuiet_nil ?_
                      refine ⟨_, _, _, _, _, _, rfl, .inl ⟨rfl, ?_, ?_⟩⟩
                      · intro LL W hL hA hC
                        obtain ⟨v1, O1, M0⟩ := hC.at 4 26 rfl hL (fun m' _ e => by simp at e; subst e; exact hA 14 (by kernel_rfl))
                        have KL := hC.at_lit (m := 25) (t := 22) (cs := [.int .u32 h, .int .u32 j, .int .u32 b, .int .u32 t, .int .u32 d]) (by simp) (hA 25 (by kernel_rfl)) g25
                        refine ⟨?_⟩; go_simp; simp only [movesToUpon]
                        refine (pen_OutU32 g _ v1 _ 5 5 (fun i => [h, j, b, t, d].getD i 0) W O1 (by have h1 := HPS.out 4; have h2 := hPL.out; omega) (SliceOf.of_blk (n := 5) KL (fun i => .int .u32 ([h, j, b, t, d].getD i 0)) rfl (by omega) (fun i hi => by match i, hi with
                            | 0, _ => rfl
                            | 1, _ => rfl
                            | 2, _ => rfl
                            | 3, _ => rfl
                            | 4, _ => rfl
                            )) (fun i hi => by obtain ⟨u0, u1, u2, u3, u4⟩ := hu.out; match i, hi with
                            | 0, _ => exact u0
                            | 1, _ => exact u1
                            | 2, _ => exact u2
                            | 3, _ => exact u3
                            | 4, _ => exact u4
                            ) (fun b off e => by injection e with e; injection e with e1 e2; subst e1; exact ⟨Blk.ne_ KL O1.blk (by decide), own_ne_blk O1.own KL (by decide)⟩)).mono ?_
                        rintro e w' ⟨rfl, v2, O2, M2⟩
                        refine ⟨_, rfl, ⟨(fun e => by cases e), (fun e => by cases e), (fun e => by cases e), (fun e => by cases e), (fun e => by cases e), (fun e => by cases e), (fun e => by cases e), (fun e => by cases e), (fun e => by cases e), fun _ => rfl⟩, hC.call (by decide) 4 26 rfl hL (fun m' _ e => by simp at e; subst e; exact hA 14 (by kernel_rfl)) (fun a ha => by simp at ha; rcases ha with rfl | rfl | rfl | rfl | rfl <;> simp) O1 M0 (by rw [stL_succ _ _ _ _ hp4]; exact O2) M2 _⟩
                      · intro K' hK'; dsimp only at hK'; rw [k26]; go_big_quiet_op; go_big_quiet_on; (repeat (go_big_quiet_step (fail))); refine wpQuiet_nil ?_
                        intro LL w9 hL hC
                        obtain ⟨v9, O9, M9⟩ := hC.all (fun m hm => by simp at hm; exact hL m (by rcases hm with rfl | rfl | rfl | rfl | rfl <;> decide))
                        rw [show ([6, 8, 12, 14, 26] : List Nat).length = 5 from rfl, hfin] at O9
                        have M19 := M1.trans M9
                        clear hC hL hG E0 hne
                        go_wp2_with fail
                        go_end0
                        exact ⟨rfl, v9, O9, M19⟩
end Go.Proofs.Ytliilcadlijnoaa
