/- SubflowReads, walked. No condition. (Printed by gen_subr.py.) -/
import Derived.Test.YtliilcadlijnoaaSub5
import Derived.Test.YtliilcadlijnoaaCut
namespace Go.Proofs.Ytliilcadlijnoaa
open Go.RowKit BigFrame
attribute [local go_sem ↓] Go.wp_at_zero Go.wp_at_succ

theorem SliceOf.none_ (W : World) (s : Nat) (E : Nat → List Value) : SliceOf W none 0 0 s E := ⟨Nat.le_refl _, Nat.zero_le _, fun h => absurd h (by omega)⟩
/-- What both say of a piece. -/
structure BothL (cnt kd : Int) (s : ByteArray) (src : Int) (ys : List LnR) (er : Int) : Prop where
  s0 : 0 ≤ src ∧ src < 4294967296
  len : ys.length ≤ 15
  ok : LnOk ys
  back : er = 0 → pcV 1 (pieceL src ys) = .agg #[.int .i64 cnt, .int .i64 kd, .string s]
  own : ∀ W, Calls Try.prog 14 #[.agg #[.int .i64 cnt, .int .i64 kd, .string s]] W fun e w' => ∃ a c, e = .returned (.tuple #[.agg #[.int .u32 src, .slice a ys.length c], .int .i64 er]) ∧ LnAt w' a ys.length c ys ∧ Below W.heap.size W w'
  doc : ∀ W, Calls Try.prog 15 #[.agg #[.int .i64 cnt, .int .i64 kd, .string s]] W fun e w' => ∃ a c, e = .returned (.tuple #[.int .i64 src, .slice a ys.length c, .int .i64 er]) ∧ RnAt w' a ys.length c ys ∧ Below W.heap.size W w'
theorem bothL (cnt kd : Int) (s : ByteArray) (hs : s.size ≤ 10000) : ∃ src ys er, BothL cnt kd s src ys er := by
  by_cases h5 : kd ≠ 211 ∨ cnt ≠ 1
  · refine ⟨0, [], 5, by decide, by simp, (fun x h => by cases h), (fun h => by cases h), fun W => ?_, fun W => ?_⟩
    · refine (sub_ToL5 cnt kd s h5 W).mono ?_
      rintro e w' ⟨rfl, B⟩
      exact ⟨none, 0, rfl, ⟨rfl, SliceOf.none_ _ _ _⟩, B⟩
    · refine (ref11_ToL5 cnt kd s h5 W).mono ?_
      rintro e w' ⟨rfl, B⟩
      exact ⟨none, 0, rfl, ⟨rfl, SliceOf.none_ _ _ _⟩, B⟩
  · obtain ⟨rfl, rfl⟩ : kd = 211 ∧ cnt = 1 := by omega
    have hb := bytesI_ok s
    have hsb := src4_bd hb
    obtain ⟨p1, p2⟩ := pieceL_doc hb
    obtain ⟨d, hd⟩ : ∃ d, docR 28 1 decL LnR.p canL (bytesI s) = d := ⟨_, rfl⟩
    rw [hd] at p1 p2
    cases d with
    | none =>
      refine ⟨0, [], 1, by decide, by simp, (fun x h => by cases h), (fun h => by cases h), fun W => ?_, fun W => ?_⟩
      · refine (sub_ToL s W hs _ rfl _ rfl _ rfl false p1).mono ?_
        rintro e w' ⟨B, h⟩
        simp only [Bool.false_eq_true, if_false] at h
        exact ⟨none, 0, h, ⟨rfl, SliceOf.none_ _ _ _⟩, B⟩
      · refine (ref11_ToL s W hs _ rfl _ hd).mono ?_
        rintro e w' ⟨B, h⟩
        exact ⟨none, 0, h.no rfl, ⟨rfl, SliceOf.none_ _ _ _⟩, B⟩
    | some zs =>
      have hz := p2 zs rfl
      subst hz
      have h4 : src4 (bytesI s) = n4 (bytesI s) := by
        unfold docR at hd
        split at hd
        · rename_i h; unfold src4; rw [if_pos (by omega)]
        · cases hd
      refine ⟨src4 (bytesI s), decs 28 decL 15 ((bytesI s).drop 4), 0, hsb, decs_len _ _, decsL_ok _ _ (hb.drop 4), (fun _ => ?_), fun W => ?_, fun W => ?_⟩
      · have h1 : pieceL (src4 (bytesI s)) (decs 28 decL 15 ((bytesI s).drop 4)) = some (bytesI s) := by simpa using p1
        rw [h1]
        unfold pcV
        simp only [str_bytesI]
      · refine (sub_ToL s W hs _ rfl _ rfl _ rfl true p1).mono ?_
        rintro e w' ⟨B, h⟩
        simp only [if_true] at h
        obtain ⟨a, c, rfl, S⟩ := h
        exact ⟨a, c, rfl, S, B⟩
      · refine (ref11_ToL s W hs _ rfl _ hd).mono ?_
        rintro e w' ⟨B, h⟩
        obtain ⟨a, c, rfl, S⟩ := h.yes _ rfl
        exact ⟨a, c, by rw [h4], S, B⟩
/-- What both say of a piece. -/
structure BothA (cnt kd : Int) (s : ByteArray) (src : Int) (ys : List AdR) (er : Int) : Prop where
  s0 : 0 ≤ src ∧ src < 4294967296
  len : ys.length ≤ 15
  back : er = 0 → pcV 2 (pieceA src ys) = .agg #[.int .i64 cnt, .int .i64 kd, .string s]
  own : ∀ W, Calls Try.prog 11 #[.agg #[.int .i64 cnt, .int .i64 kd, .string s]] W fun e w' => ∃ a c, e = .returned (.tuple #[.agg #[.int .u32 src, .slice a ys.length c], .int .i64 er]) ∧ AdAt w' a ys.length c ys ∧ Below W.heap.size W w'
  doc : ∀ W, Calls Try.prog 16 #[.agg #[.int .i64 cnt, .int .i64 kd, .string s]] W fun e w' => ∃ a c, e = .returned (.tuple #[.int .i64 src, .slice a ys.length c, .int .i64 er]) ∧ AdAt w' a ys.length c ys ∧ Below W.heap.size W w'
theorem bothA (cnt kd : Int) (s : ByteArray) (hs : s.size ≤ 10000) : ∃ src ys er, BothA cnt kd s src ys er := by
  by_cases h5 : kd ≠ 211 ∨ cnt ≠ 2
  · refine ⟨0, [], 5, by decide, by simp, (fun h => by cases h), fun W => ?_, fun W => ?_⟩
    · refine (sub_ToA5 cnt kd s h5 W).mono ?_
      rintro e w' ⟨rfl, B⟩
      exact ⟨none, 0, rfl, ⟨rfl, SliceOf.none_ _ _ _⟩, B⟩
    · refine (ref11_ToA5 cnt kd s h5 W).mono ?_
      rintro e w' ⟨rfl, B⟩
      exact ⟨none, 0, rfl, ⟨rfl, SliceOf.none_ _ _ _⟩, B⟩
  · obtain ⟨rfl, rfl⟩ : kd = 211 ∧ cnt = 2 := by omega
    have hb := bytesI_ok s
    have hsb := src4_bd hb
    obtain ⟨p1, p2⟩ := pieceA_doc hb
    obtain ⟨d, hd⟩ : ∃ d, docR 4 0 decA AdR.p canA (bytesI s) = d := ⟨_, rfl⟩
    rw [hd] at p1 p2
    cases d with
    | none =>
      refine ⟨0, [], 1, by decide, by simp, (fun h => by cases h), fun W => ?_, fun W => ?_⟩
      · refine (sub_ToA s W hs _ rfl _ rfl _ rfl false p1).mono ?_
        rintro e w' ⟨B, h⟩
        simp only [Bool.false_eq_true, if_false] at h
        exact ⟨none, 0, h, ⟨rfl, SliceOf.none_ _ _ _⟩, B⟩
      · refine (ref11_ToA s W hs _ rfl _ hd).mono ?_
        rintro e w' ⟨B, h⟩
        exact ⟨none, 0, h.no rfl, ⟨rfl, SliceOf.none_ _ _ _⟩, B⟩
    | some zs =>
      have hz := p2 zs rfl
      subst hz
      have h4 : src4 (bytesI s) = n4 (bytesI s) := by
        unfold docR at hd
        split at hd
        · rename_i h; unfold src4; rw [if_pos (by omega)]
        · cases hd
      refine ⟨src4 (bytesI s), decs 4 decA 15 ((bytesI s).drop 4), 0, hsb, decs_len _ _, (fun _ => ?_), fun W => ?_, fun W => ?_⟩
      · have h1 : pieceA (src4 (bytesI s)) (decs 4 decA 15 ((bytesI s).drop 4)) = some (bytesI s) := by simpa using p1
        rw [h1]
        unfold pcV
        simp only [str_bytesI]
      · refine (sub_ToA s W hs _ rfl _ rfl _ rfl true p1).mono ?_
        rintro e w' ⟨B, h⟩
        simp only [if_true] at h
        obtain ⟨a, c, rfl, S⟩ := h
        exact ⟨a, c, rfl, S, B⟩
      · refine (ref11_ToA s W hs _ rfl _ hd).mono ?_
        rintro e w' ⟨B, h⟩
        obtain ⟨a, c, rfl, S⟩ := h.yes _ rfl
        exact ⟨a, c, by rw [h4], S, B⟩
theorem RnAt.of_own2 {W : World} {B n : Nat} {v : Value} {l : List LnR} (h : W.ownsRow B 71 8 v n (rowG cellsR l)) (hl : l.length = n) : ∃ a c, v = .slice a n c ∧ RnAt W a n c l := RnAt.of_own h hl
theorem pc07_eql (x0 y0 : Int) (x1 y1 : Int) (x2 y2 : ByteArray) (w : World) : (binOp .eql 35 (.agg #[.int .i64 x0, .int .i64 x1, .string x2]) (.agg #[.int .i64 y0, .int .i64 y1, .string y2])).run Try.prog w = .ok (.bool ((x0 == y0) && (x1 == y1) && (x2.toList == y2.toList))) w := by
  have hS : Try.prog.underlying 35 = some (.struct (Try.prog.fieldsOf 35)) := by kernel_rfl
  have hp : Try.prog.stoodInHeld 35 = false := by kernel_rfl
  have u3 := Try.underlying3
  have a3 := Try.isAgg3
  have z3 := Try.sizeOf3
  have u9 := Try.underlying9
  have a9 := Try.isAgg9
  have z9 := Try.sizeOf9
  rw [run_eql_struct, show (10000 : Nat) = 9999 + 1 from rfl, run_equalIn_agg w 9999 35 _ _ hS hp]
  simp only [Program.fieldsOf, Try.underlying35]
  go_simp
  by_cases h0 : x0 = y0
  rotate_left
  · simp [h0]
  subst h0
  by_cases h1 : x1 = y1
  rotate_left
  · simp [h1]
  subst h1
  cases h2 : (x2.toList == y2.toList)
  · (try simp [h2]); try simpa using h2
  (try simp [h2])
  try simpa using h2
theorem pc07_neq (x0 y0 : Int) (x1 y1 : Int) (x2 y2 : ByteArray) (w : World) : (binOp .neq 35 (.agg #[.int .i64 x0, .int .i64 x1, .string x2]) (.agg #[.int .i64 y0, .int .i64 y1, .string y2])).run Try.prog w = .ok (.bool (!((x0 == y0) && (x1 == y1) && (x2.toList == y2.toList)))) w := by
  have hS : Try.prog.underlying 35 = some (.struct (Try.prog.fieldsOf 35)) := by kernel_rfl
  have hp : Try.prog.stoodInHeld 35 = false := by kernel_rfl
  have u3 := Try.underlying3
  have a3 := Try.isAgg3
  have z3 := Try.sizeOf3
  have u9 := Try.underlying9
  have a9 := Try.isAgg9
  have z9 := Try.sizeOf9
  rw [run_neq_struct, show (10000 : Nat) = 9999 + 1 from rfl, run_equalIn_agg w 9999 35 _ _ hS hp]
  simp only [Program.fieldsOf, Try.underlying35]
  go_simp
  by_cases h0 : x0 = y0
  rotate_left
  · simp [h0]
  subst h0
  by_cases h1 : x1 = y1
  rotate_left
  · simp [h1]
  subst h1
  cases h2 : (x2.toList == y2.toList)
  · (try simp [h2]); try simpa using h2
  (try simp [h2])
  try simpa using h2
theorem pc07_guard (op : BinOp) (x y : Operand) (xs ys : Array Value) (w : World) : (eqGuard op 35 x y (.agg xs) (.agg ys)).run Try.prog w = .ok () w := run_eqGuard_agg w op 35 x y xs ys (by kernel_rfl)

theorem pc07_eql1 (x0 x1 : Int) (x2 : ByteArray) (w : World) : (binOp .eql 35 (.agg #[.int .i64 x0, .int .i64 x1, .string x2]) (.agg #[.int .i64 x0, .int .i64 x1, .string x2])).run Try.prog w = .ok (.bool true) w := by
  rw [pc07_eql]; simp
attribute [local go_sem] pc07_eql1 pc07_guard
set_option maxRecDepth 8000 in
set_option maxHeartbeats 16000000 in
theorem SubflowReads_walk (a0x0 : Int) (a0x1 : Int) (a0x2 : ByteArray) (w : World) (a0x0w0 : (Lit.int .i64 a0x0).wf = true) (a0x1w0 : (Lit.int .i64 a0x1).wf = true) (a0x2w0 : a0x2.size ≤ maxLen) :
    Calls Try.prog 4 #[.agg #[.int .i64 a0x0, .int .i64 a0x1, .string a0x2]] w fun e w' => e = .returned (.bool true) ∧ Below w.heap.size w w' := by
  obtain ⟨s, hs⟩ : ∃ s, cutB a0x2 500 = s := ⟨_, rfl⟩
  have hsz : s.size ≤ 500 := by rw [← hs]; exact (cutB_size a0x2 500).1
  have HCT := Lib.hid (fun W => law02_Cut a0x2 s 500 a0x2w0 (by decide) hs W)
  obtain ⟨srcL, ysL, eL, bL⟩ := bothL a0x0 a0x1 s (by omega)
  obtain ⟨srcA, ysA, eA, bA⟩ := bothA a0x0 a0x1 s (by omega)
  have HBL := Lib.hid bL
  have HBA := Lib.hid bA
  obtain ⟨nL, hnL⟩ : ∃ x, ysL.length = x := ⟨_, rfl⟩
  obtain ⟨nA, hnA⟩ : ∃ x, ysA.length = x := ⟨_, rfl⟩
  have HOL := Lib.hid bL.own
  have HDL := Lib.hid bL.doc
  have HOA := Lib.hid bA.own
  have HDA := Lib.hid bA.doc
  have lenL := bL.len
  have lenA := bA.len
  rw [hnL] at HOL HDL lenL
  rw [hnA] at HOA HDA lenA
  have wsL : IntKind.i64.wrap srcL = srcL := IntWalk.i64_in _ (by have := bL.s0; omega)
  have wsA : IntKind.i64.wrap srcA = srcA := IntWalk.i64_in _ (by have := bA.s0; omega)
  have n1 : (eL != eL) = false := by simp
  have n2 : (srcL != srcL) = false := by simp
  have n3' : (eA != eA) = false := by simp
  have n4' : (srcA != srcA) = false := by simp
  clear hs a0x0w0 a0x1w0 a0x2w0 bL bA hnL hnA
  have K0 := Blk.new w 35 #[.int .i64 a0x0, .int .i64 a0x1, .string a0x2]
  have B0 : Below w.heap.size w (w.alloc (.cells #[.int .i64 a0x0, .int .i64 a0x1, .string a0x2] 35)) := (Below.refl _ w).alloc (Nat.le_refl _) _
  go_enter Try.func4, Try.ntmps4
  go_upto_region 1 with fail
  generalize w.alloc (.cells #[.int .i64 a0x0, .int .i64 a0x1, .string a0x2] 35) = w0 at *
  go_wp2_with fail
  refine (law11_awake _).mono ?_
  rintro e w1 ⟨rfl, B1⟩
  have K1 := K0.below B1 K0.lt
  have B01 := below_then B0 B1 (Nat.le_refl _)
  clear K0 B0 B1
  have k1 := K1.cell
  have f1 := K1.frozen
  simp at k1
  go_wp2_with fail
  refine (HCT.out w1).mono ?_
  rintro e w2 ⟨rfl, rfl⟩
  have K2 := K1.set_ 2 (.string s)
  simp at K2
  have B2 : Below w.heap.size w1 (w1.setCell ⟨w.heap.size, 2, none⟩ (.string s)) := (Below.refl _ _).setCell (p := ⟨w.heap.size, 2, none⟩) (Nat.le_refl _) _
  have B02 := B01.trans B2
  go_upto_region 4 with fail
  clear k1 f1 K1 B01 B2
  generalize w1.setCell ⟨w.heap.size, 2, none⟩ (.string s) = w2 at *
  have k2 := K2.cell
  simp at k2
  go_wp2_with fail
  refine (HOL.out w2).mono ?_
  rintro e w3 ⟨aL, cL, rfl, SL, B3⟩
  have K3 := K2.below B3 K2.lt
  have Ka := Blk.new w3 47 #[.int .u32 srcL, .slice aL nL cL]
  have Ba : Below w3.heap.size w3 (w3.alloc (.cells #[.int .u32 srcL, .slice aL nL cL] 47)) := (Below.refl _ w3).alloc (Nat.le_refl _) _
  have K4 := K3.below Ba K3.lt
  have S4 := SL.below Ba
  have B4 := below_then (below_then B02 B3 (Nat.le_refl _)) Ba (Nat.le_refl _)
  clear k2 K2 B02 B3 K3 SL Ba
  go_upto_region 5 with fail
  obtain ⟨gl, hgl⟩ : ∃ gl, w3.heap.size = gl := ⟨_, rfl⟩
  rw [hgl] at Ka
  generalize w3.alloc (.cells #[.int .u32 srcL, .slice aL nL cL] 47) = w4 at *
  have k4 := K4.cell
  simp at k4
  go_wp2_with fail
  refine (HDL.out w4).mono ?_
  rintro e w5 ⟨dL, eL', rfl, T5, B5⟩
  have K5 := K4.below B5 K4.lt
  have Ka5 := Ka.below B5 Ka.lt
  have S5 := S4.below B5
  have B05 := below_then B4 B5 (Nat.le_refl _)
  have k5 := K5.cell
  simp at k5
  clear k4 K4 Ka S4 B4 B5
  go_wp2_with fail
  refine (HOA.out w5).mono ?_
  rintro e w6 ⟨aA, cA, rfl, SA, B6⟩
  have K6 := K5.below B6 K5.lt
  have Ka6 := Ka5.below B6 Ka5.lt
  have S6 := S5.below B6
  have T6 := T5.below B6
  have Kb := Blk.new w6 27 #[.int .u32 srcA, .slice aA nA cA]
  have Bb : Below w6.heap.size w6 (w6.alloc (.cells #[.int .u32 srcA, .slice aA nA cA] 27)) := (Below.refl _ w6).alloc (Nat.le_refl _) _
  have K7 := K6.below Bb K6.lt
  have Ka7 := Ka6.below Bb Ka6.lt
  have S7 := S6.below Bb
  have T7 := T6.below Bb
  have SA7 := SA.below Bb
  have B07 := below_then (below_then B05 B6 (Nat.le_refl _)) Bb (Nat.le_refl _)
  clear k5 K5 Ka5 S5 T5 B05 B6 K6 Ka6 S6 T6 SA Bb
  go_upto_region 7 with fail
  obtain ⟨ga, hga⟩ : ∃ ga, w6.heap.size = ga := ⟨_, rfl⟩
  rw [hga] at Kb
  generalize w6.alloc (.cells #[.int .u32 srcA, .slice aA nA cA] 27) = w7 at *
  have k7 := K7.cell
  simp at k7
  go_wp2_with fail
  refine (HDA.out w7).mono ?_
  rintro e w8 ⟨dA, eA', rfl, TA8, B8⟩
  have K8 := K7.below B8 K7.lt
  have Ka8 := Ka7.below B8 Ka7.lt
  have Kb8 := Kb.below B8 Kb.lt
  have S8 := S7.below B8
  have T8 := T7.below B8
  have SA8 := SA7.below B8
  have B08 := below_then B07 B8 (Nat.le_refl _)
  have ka8 := Ka8.cell
  have kb8 := Kb8.cell
  simp at ka8 kb8
  clear k7 K7 Ka7 Kb S7 T7 SA7 B07 B8
  have HLI := Lib.hid (law11_lines aL nL cL ysL w8 S8 (by omega) HBL.out.ok)
  go_wp2_with fail
  refine HLI.out.mono ?_
  rintro e w9 ⟨v9, rfl, own9, B9⟩
  obtain ⟨a9, c9, rfl, R9⟩ := RnAt.of_own own9 S8.len
  have T9 := T8.below B9
  have K9 := K8.below B9 K8.lt
  have Ka9 := Ka8.below B9 Ka8.lt
  have Kb9 := Kb8.below B9 Kb8.lt
  have S9 := S8.below B9
  have SA9 := SA8.below B9
  have TA9 := TA8.below B9
  have B09 := below_then B08 B9 (Nat.le_refl _)
  clear HLI own9 ka8 kb8 K8 Ka8 Kb8 S8 T8 SA8 TA8 B08 B9
  have kb9 := Kb9.cell
  simp at kb9
  go_wp2_with fail
  refine (law11_sameLines _ _ nL _ _ ysL w9 R9 T9 (by omega)).mono ?_
  rintro e w10 ⟨rfl, B10⟩
  have K10 := K9.below B10 K9.lt
  have Ka10 := Ka9.below B10 Ka9.lt
  have Kb10 := Kb9.below B10 Kb9.lt
  have S10 := S9.below B10
  have SA10 := SA9.below B10
  have TA10 := TA9.below B10
  have B010 := below_then B09 B10 (Nat.le_refl _)
  have kb10 := Kb10.cell
  simp at kb10
  clear kb9 K9 Ka9 Kb9 S9 T9 R9 SA9 TA9 B09 B10
  go_wp2_with fail
  refine (law11_sameAdverts _ _ nA _ _ ysA w10 SA10 TA10 (by omega)).mono ?_
  rintro e w11 ⟨rfl, B11⟩
  have K11 := K10.below B11 K10.lt
  have Ka11 := Ka10.below B11 Ka10.lt
  have Kb11 := Kb10.below B11 Kb10.lt
  have S11 := S10.below B11
  have SA11 := SA10.below B11
  have B011 := below_then B010 B11 (Nat.le_refl _)
  clear kb10 K10 Ka10 Kb10 S10 SA10 TA10 B010 B11
  have E1 := fun (gx : Ext w11) => (K11.below gx.below K11.lt).cell
  have E2 := fun (gx : Ext w11) => (Ka11.below gx.below Ka11.lt).cell
  have E3 := fun (gx : Ext w11) => (Kb11.below gx.below Kb11.lt).cell
  simp at E1 E2 E3
  have HPL := Lib.hid (fun gx : Ext w11 => ln_Piece srcL HBL.out.s0 aL nL cL ysL gx.world (S11.below gx.below) (by omega) HBL.out.ok)
  have HPA := Lib.hid (fun gx : Ext w11 => ad_Piece srcA HBA.out.s0 aA nA cA ysA gx.world (SA11.below gx.below) (by omega))
  have HEL := Lib.hid HBL.out.back
  have HEA := Lib.hid HBA.out.back
  by_cases hl : eL = 0
  · have m1 : (eL != 0) = false := by simp [hl]
    have hb := HEL.out hl
    rw [hb] at HPL
    clear hl hb
    by_cases ha : eA = 0
    · have m2 : (eA != 0) = false := by simp [ha]
      have hb := HEA.out ha
      rw [hb] at HPA
      clear ha hb
      go_upto_region 10 with fail
      refine wp_region_ext (by kernel_rfl) (by kernel_rfl) ?_; (repeat (go_big_quiet_step ((first | (go_at_call 19; with_reducible exact calls_ext _ (HPL.out _)) | (go_at_call 7; with_reducible exact calls_ext _ (HPA.out _)))))); refine wpQuiet_nil ?_; rintro _ ⟨gq, rfl⟩
      have BE := below_then B011 gq.below (Nat.le_refl _)
      generalize gq.world = w12 at *
      clear E1 E2 E3
      go_wp2_with fail
      go_ret
      exact ⟨rfl, BE⟩
    · have m2 : (eA != 0) = true := by simp [ha]
      clear ha
      go_upto_region 10 with fail
      refine wp_region_ext (by kernel_rfl) (by kernel_rfl) ?_; (repeat (go_big_quiet_step ((first | (go_at_call 19; with_reducible exact calls_ext _ (HPL.out _)))))); refine wpQuiet_nil ?_; rintro _ ⟨gq, rfl⟩
      have BE := below_then B011 gq.below (Nat.le_refl _)
      generalize gq.world = w12 at *
      clear E1 E2 E3
      go_wp2_with fail
      go_ret
      exact ⟨rfl, BE⟩
  · have m1 : (eL != 0) = true := by simp [hl]
    clear hl
    by_cases ha : eA = 0
    · have m2 : (eA != 0) = false := by simp [ha]
      have hb := HEA.out ha
      rw [hb] at HPA
      clear ha hb
      go_upto_region 10 with fail
      refine wp_region_ext (by kernel_rfl) (by kernel_rfl) ?_; (repeat (go_big_quiet_step ((first | (go_at_call 7; with_reducible exact calls_ext _ (HPA.out _)))))); refine wpQuiet_nil ?_; rintro _ ⟨gq, rfl⟩
      have BE := below_then B011 gq.below (Nat.le_refl _)
      generalize gq.world = w12 at *
      clear E1 E2 E3
      go_wp2_with fail
      go_ret
      exact ⟨rfl, BE⟩
    · have m2 : (eA != 0) = true := by simp [ha]
      clear ha
      go_upto_region 10 with fail
      refine wp_region_ext (by kernel_rfl) (by kernel_rfl) ?_; (repeat (go_big_quiet_step (fail))); refine wpQuiet_nil ?_; rintro _ ⟨gq, rfl⟩
      have BE := below_then B011 gq.below (Nat.le_refl _)
      generalize gq.world = w12 at *
      clear E1 E2 E3
      go_wp2_with fail
      go_ret
      exact ⟨rfl, BE⟩
end Go.Proofs.Ytliilcadlijnoaa
