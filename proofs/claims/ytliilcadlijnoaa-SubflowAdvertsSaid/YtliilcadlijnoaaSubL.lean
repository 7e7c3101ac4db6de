/- Package subflow: a line, read. No condition but that the reader stands. -/
import Derived.Test.YtliilcadlijnoaaSub2
import Derived.Test.YtliilcadlijnoaaPenB
namespace Go.Proofs.Ytliilcadlijnoaa
open Go.RowKit BigFrame
attribute [local go_sem ↓] Go.wp_at_zero Go.wp_at_succ

def sgn24 (x : Int) : Int := if 8388608 ≤ x then x - 16777216 else x
/-- A part of its bytes. -/
def decL (l : List Int) : LnR := ⟨l.getD 0 0, l.getD 1 0, sgn24 (n3 (l.drop 4)), n4 (l.drop 8), n4 (l.drop 12), n4 (l.drop 16), n4 (l.drop 20), n4 (l.drop 24)⟩
def decA (l : List Int) : AdR := ⟨l.getD 0 0, decide (l.getD 1 0 = 1), n2 (l.drop 2)⟩
theorem eight_setS {w : World} {g : Nat} {t : TypeId} {y0 y1 y2 y3 y4 y5 y6 y7 : Value} (h : Blk w g t #[y0, y1, y2, y3, y4, y5, y6, y7]) (x0 x1 x2 x3 x4 x5 x6 x7 : Value) (B : Nat) (hB : B ≤ g) :
    ∃ w2, (((((((w.setCell ⟨g, 0, none⟩ x0).setCell ⟨g, 1, none⟩ x1).setCell ⟨g, 2, none⟩ x2).setCell ⟨g, 3, none⟩ x3).setCell ⟨g, 4, none⟩ x4).setCell ⟨g, 5, none⟩ x5).setCell ⟨g, 6, none⟩ x6).setCell ⟨g, 7, none⟩ x7 = w2 ∧ Blk w2 g t #[x0, x1, x2, x3, x4, x5, x6, x7] ∧ Below B w w2 ∧ (∀ k, k ≠ g → w2.heap[k]? = w.heap[k]?) := by
  have k0 := h.set_ 0 x0; simp at k0
  have k1 := k0.set_ 1 x1; simp at k1
  have k2 := k1.set_ 2 x2; simp at k2
  have k3 := k2.set_ 3 x3; simp at k3
  have k4 := k3.set_ 4 x4; simp at k4
  have k5 := k4.set_ 5 x5; simp at k5
  have k6 := k5.set_ 6 x6; simp at k6
  have k7 := k6.set_ 7 x7; simp at k7
  exact ⟨_, rfl, k7, ((((((((Below.refl _ _).setCell hB _).setCell hB _).setCell hB _).setCell hB _).setCell hB _).setCell hB _).setCell hB _).setCell hB _, fun k hk => by rw [Below.heap_setCell _ _ _ _ hk, Below.heap_setCell _ _ _ _ hk, Below.heap_setCell _ _ _ _ hk, Below.heap_setCell _ _ _ _ hk, Below.heap_setCell _ _ _ _ hk, Below.heap_setCell _ _ _ _ hk, Below.heap_setCell _ _ _ _ hk, Below.heap_setCell _ _ _ _ hk]⟩
theorem OldBut.new_ {w w6 w7 : World} {g ga : Nat} (h : OldBut w w6 g) (hk : ∀ k, k ≠ ga → w7.heap[k]? = w6.heap[k]?) (hg : w.heap.size ≤ ga) (hB : Below 0 w6 w7) : OldBut w w7 g :=
  ⟨h.below.trans hB, fun k h1 h2 => (hk k (by omega)).trans (h.keep k h1 h2)⟩
theorem Blk.tail5_ {w : World} {g : Nat} {t : TypeId} {y0 y1 y2 y3 y4 y5 y6 y7 : Value} (h : Blk w g t #[y0, y1, y2, y3, y4, y5, y6, y7]) (x3 x4 x5 x6 x7 : Value) (B : Nat) (hB : B ≤ g) :
    ∃ w2, ((((w.setCell ⟨g, 3, none⟩ x3).setCell ⟨g, 4, none⟩ x4).setCell ⟨g, 5, none⟩ x5).setCell ⟨g, 6, none⟩ x6).setCell ⟨g, 7, none⟩ x7 = w2 ∧ Blk w2 g t #[y0, y1, y2, x3, x4, x5, x6, x7] ∧ Below B w w2 ∧ (∀ k, k ≠ g → w2.heap[k]? = w.heap[k]?) := by
  have k3 := h.set_ 3 x3; simp at k3
  have k4 := k3.set_ 4 x4; simp at k4
  have k5 := k4.set_ 5 x5; simp at k5
  have k6 := k5.set_ 6 x6; simp at k6
  have k7 := k6.set_ 7 x7; simp at k7
  exact ⟨_, rfl, k7, (((((Below.refl _ _).setCell hB _).setCell hB _).setCell hB _).setCell hB _).setCell hB _, fun k hk => by rw [Below.heap_setCell _ _ _ _ hk, Below.heap_setCell _ _ _ _ hk, Below.heap_setCell _ _ _ _ hk, Below.heap_setCell _ _ _ _ hk, Below.heap_setCell _ _ _ _ hk]⟩
def zLnA : Array Value := #[.int .i64 0, .int .i64 0, .int .i64 0, .int .u32 0, .int .u32 0, .int .u32 0, .int .u32 0, .int .u32 0]
set_option maxRecDepth 8000 in
set_option maxHeartbeats 8000000 in
theorem sub_line (g : Nat) (l : List Int) (w : World) (I : InB w g l) (hn : 28 ≤ l.length) (hs : l.length ≤ 10000) :
    Calls Try.prog 28 #[.pointer (some ⟨g, 0, none⟩)] w fun e w' => e = .returned (decL l).val ∧ InB w' g (l.drop 28) ∧ OldBut w w' g := by
  have hok := I.ok
  obtain ⟨p, hp⟩ : ∃ x, n1 l = x := ⟨_, rfl⟩
  obtain ⟨f, hf⟩ : ∃ x, n1 (l.drop 1) = x := ⟨_, rfl⟩
  obtain ⟨z, hz⟩ : ∃ x, n2 (l.drop 2) = x := ⟨_, rfl⟩
  obtain ⟨q, hq⟩ : ∃ x, n3 (l.drop 4) = x := ⟨_, rfl⟩
  obtain ⟨z2, hz2⟩ : ∃ x, n1 (l.drop 7) = x := ⟨_, rfl⟩
  obtain ⟨h, hh⟩ : ∃ x, n4 (l.drop 8) = x := ⟨_, rfl⟩
  obtain ⟨j, hj⟩ : ∃ x, n4 (l.drop 12) = x := ⟨_, rfl⟩
  obtain ⟨b, hb⟩ : ∃ x, n4 (l.drop 16) = x := ⟨_, rfl⟩
  obtain ⟨t, ht⟩ : ∃ x, n4 (l.drop 20) = x := ⟨_, rfl⟩
  obtain ⟨d, hd⟩ : ∃ x, n4 (l.drop 24) = x := ⟨_, rfl⟩
  have hqb := n3_bd (hok.drop 4)
  rw [hq] at hqb
  obtain ⟨q2, hq2⟩ : ∃ x, sgn24 q = x := ⟨_, rfl⟩
  have hv : decL l = ⟨p, f, q2, h, j, b, t, d⟩ := by
    unfold decL
    rw [hq, hq2, hh, hj, hb, ht, hd, ← hp, ← hf]
    unfold n1
    rw [getD_drop]
  have R1 := Lib.hid (fun W (I : InB W g l) => penB_U8 g l W I (by omega) (by omega))
  have R2 := Lib.hid (fun W (I : InB W g (l.drop 1)) => penB_U8 g _ W I (by rw [List.length_drop]; omega) (by rw [List.length_drop]; omega))
  have R3 := Lib.hid (fun W (I : InB W g (l.drop 2)) => penB_U16 g _ W I (by rw [List.length_drop]; omega) (by rw [List.length_drop]; omega))
  have R4 := Lib.hid (fun W (I : InB W g (l.drop 4)) => penB_U24 g _ W I (by rw [List.length_drop]; omega) (by rw [List.length_drop]; omega))
  have R5 := Lib.hid (fun W (I : InB W g (l.drop 7)) => penB_U8 g _ W I (by rw [List.length_drop]; omega) (by rw [List.length_drop]; omega))
  have R6 := Lib.hid (fun W (I : InB W g (l.drop 8)) => penB_U32 g _ W I (by rw [List.length_drop]; omega) (by rw [List.length_drop]; omega))
  have R7 := Lib.hid (fun W (I : InB W g (l.drop 12)) => penB_U32 g _ W I (by rw [List.length_drop]; omega) (by rw [List.length_drop]; omega))
  have R8 := Lib.hid (fun W (I : InB W g (l.drop 16)) => penB_U32 g _ W I (by rw [List.length_drop]; omega) (by rw [List.length_drop]; omega))
  have R9 := Lib.hid (fun W (I : InB W g (l.drop 20)) => penB_U32 g _ W I (by rw [List.length_drop]; omega) (by rw [List.length_drop]; omega))
  have R0 := Lib.hid (fun W (I : InB W g (l.drop 24)) => penB_U32 g _ W I (by rw [List.length_drop]; omega) (by rw [List.length_drop]; omega))
  rw [hp] at R1
  rw [hf] at R2
  rw [hz] at R3
  rw [hq] at R4
  rw [hz2] at R5
  rw [hh] at R6
  rw [hj] at R7
  rw [hb] at R8
  rw [ht] at R9
  rw [hd] at R0
  simp only [List.drop_drop] at R2 R3 R4 R5 R6 R7 R8 R9 R0
  have HV := Lib.hid hv
  have HQ2 := Lib.hid hq2
  clear hp hf hz hq hz2 hh hj hb ht hd hv hq2 hok hn hs
  have K0 := Blk.new w 67 zLnA
  have B0 : Below w.heap.size w (w.alloc (.cells zLnA 67)) := (Below.refl _ w).alloc (Nat.le_refl _) _
  have I0 := I.below B0
  have gl := I.lt
  have O0 : OldBut w (w.alloc (.cells zLnA 67)) g := .of_below B0
  unfold zLnA at K0 B0 I0 O0
  go_enter Try.func28, Try.ntmps28
  go_upto_region 1 with fail
  generalize w.alloc (.cells #[.int .i64 0, .int .i64 0, .int .i64 0, .int .u32 0, .int .u32 0, .int .u32 0, .int .u32 0, .int .u32 0] 67) = w1 at *
  have s1 := B0.size
  have hl1 := K0.lt
  clear B0 I
  go_wp2_with fail
  refine (R1.out w1 I0).mono ?_
  rintro e w2 ⟨rfl, I2, O2⟩
  go_wp2_with fail
  refine (R2.out w2 I2).mono ?_
  rintro e w3 ⟨rfl, I3, O3⟩
  have O13 := O2.trans O3
  have K3 := O13.blk K0 (by omega)
  have O03 := O0.trans O13
  have s3 := O13.below.size
  have Ka := Blk.new w3 67 #[.int .i64 p, .int .i64 f, .int .i64 0, .int .u32 0, .int .u32 0, .int .u32 0, .int .u32 0, .int .u32 0]
  have Ba : Below w3.heap.size w3 (w3.alloc (.cells #[.int .i64 p, .int .i64 f, .int .i64 0, .int .u32 0, .int .u32 0, .int .u32 0, .int .u32 0, .int .u32 0] 67)) := (Below.refl _ w3).alloc (Nat.le_refl _) _
  have I4 := I3.below Ba
  have K4 := K3.below Ba K3.lt
  have O04 := O03.trans (OldBut.of_below (g := g) Ba)
  have n3g : w3.heap.size ≠ g := by have := I3.lt; omega
  have n3w : w3.heap.size ≠ w.heap.size := by omega
  have n3l : w.heap.size ≤ w3.heap.size := by omega
  clear I0 O0 I2 O2 I3 O3 O13 K3 O03 Ba K0
  go_upto_region 2 with fail
  obtain ⟨ga, hga⟩ : ∃ ga, w3.heap.size = ga := ⟨_, rfl⟩
  rw [hga] at Ka n3g n3w n3l ⊢
  generalize w3.alloc (.cells #[.int .i64 p, .int .i64 f, .int .i64 0, .int .u32 0, .int .u32 0, .int .u32 0, .int .u32 0, .int .u32 0] 67) = w4 at *
  clear hga
  go_wp2_with fail
  refine (R3.out w4 I4).mono ?_
  rintro e w5 ⟨rfl, I5, O5⟩
  go_wp2_with fail
  refine (R4.out w5 I5).mono ?_
  rintro e w6 ⟨rfl, I6, O6⟩
  have O46 := O5.trans O6
  have Ka6 := O46.blk Ka n3g
  have K6 := O46.blk K4 (by omega)
  have O06 := O04.trans O46
  have ca6 := Ka6.cell
  have fa6 := Ka6.frozen
  simp at ca6
  have Ka7 := Ka6.set_ 2 (.int .i64 q)
  simp at Ka7
  have hk7 : ∀ k, k ≠ ga → (w6.setCell ⟨ga, 2, none⟩ (.int .i64 q)).heap[k]? = w6.heap[k]? := fun k hk => Below.heap_setCell _ ⟨ga, 2, none⟩ _ k hk
  have B7 : Below 0 w6 (w6.setCell ⟨ga, 2, none⟩ (.int .i64 q)) := (Below.refl _ _).setCell (Nat.zero_le _) _
  have O07 := O06.new_ hk7 n3l B7
  have I7 := I6.at_ (hk7 g (Ne.symm n3g))
  have K7 : Blk (w6.setCell ⟨ga, 2, none⟩ (.int .i64 q)) w.heap.size 67 _ := (hk7 _ (Ne.symm n3w)).trans K6
  clear I4 O5 I5 O6 O46 Ka K4 O04 K6 O06 hk7 B7 I6
  go_upto_region 4 with fail
  clear ca6 fa6 Ka6
  generalize w6.setCell ⟨ga, 2, none⟩ (.int .i64 q) = w7 at *
  have ca7 := Ka7.cell
  have fa7 := Ka7.frozen
  simp at ca7
  by_cases hs8 : 8388608 ≤ q
  · have hq2 : q - 16777216 = q2 := by rw [← HQ2.out]; unfold sgn24; rw [if_pos hs8]
    have wq2 : IntKind.i64.wrap (q - 16777216) = q2 := by rw [IntWalk.i64_in _ (by omega), hq2]
    have Ka8 := Ka7.set_ 2 (.int .i64 q2)
    simp at Ka8
    have hk8 : ∀ k, k ≠ ga → (w7.setCell ⟨ga, 2, none⟩ (.int .i64 q2)).heap[k]? = w7.heap[k]? := fun k hk => Below.heap_setCell _ ⟨ga, 2, none⟩ _ k hk
    have B8 : Below 0 w7 (w7.setCell ⟨ga, 2, none⟩ (.int .i64 q2)) := (Below.refl _ _).setCell (Nat.zero_le _) _
    have O08 := O07.new_ hk8 n3l B8
    have I8 := I7.at_ (hk8 g (Ne.symm n3g))
    have K8 : Blk (w7.setCell ⟨ga, 2, none⟩ (.int .i64 q2)) w.heap.size 67 _ := (hk8 _ (Ne.symm n3w)).trans K7
    clear hq2 hk8 B8
    go_upto_region 6 with fail
    clear ca7 fa7 Ka7 K7 I7 O07
    generalize w7.setCell ⟨ga, 2, none⟩ (.int .i64 q2) = w8 at *
    clear w7
    go_wp2_with fail
    refine (R5.out w8 I8).mono ?_
    rintro e w9 ⟨rfl, I9, O9⟩
    go_wp2_with fail
    refine (R6.out w9 I9).mono ?_
    rintro e w10 ⟨rfl, I10, O10⟩
    go_wp2_with fail
    refine (R7.out w10 I10).mono ?_
    rintro e w11 ⟨rfl, I11, O11⟩
    go_wp2_with fail
    refine (R8.out w11 I11).mono ?_
    rintro e w12 ⟨rfl, I12, O12⟩
    go_wp2_with fail
    refine (R9.out w12 I12).mono ?_
    rintro e w13 ⟨rfl, I13, O13⟩
    go_wp2_with fail
    refine (R0.out w13 I13).mono ?_
    rintro e w14 ⟨rfl, I14, O14⟩
    have OA := O9.trans (O10.trans (O11.trans (O12.trans (O13.trans O14))))
    have Kb := OA.blk Ka8 n3g
    have K14 := OA.blk K8 (by omega)
    have O014 := O08.trans OA
    clear I9 O9 I10 O10 I11 O11 I12 O12 I13 O13 O14 OA I8 Ka8 K8 O08
    have cb := Kb.cell
    have fb := Kb.frozen
    simp at cb
    obtain ⟨w15, e15, K15, B15, hk15⟩ := Kb.tail5_ (.int .u32 h) (.int .u32 j) (.int .u32 b) (.int .u32 t) (.int .u32 d) 0 (Nat.zero_le _)
    have O015 := O014.new_ hk15 n3l B15
    have I15 := I14.at_ (hk15 g (Ne.symm n3g))
    have K15w : Blk w15 w.heap.size 67 _ := (hk15 _ (Ne.symm n3w)).trans K14
    clear I14 O014 K14 hk15 B15
    go_upto_region 8 with fail
    clear cb fb Kb
    generalize ((((w14.setCell ⟨ga, 3, none⟩ (.int .u32 h)).setCell ⟨ga, 4, none⟩ (.int .u32 j)).setCell ⟨ga, 5, none⟩ (.int .u32 b)).setCell ⟨ga, 6, none⟩ (.int .u32 t)).setCell ⟨ga, 7, none⟩ (.int .u32 d) = w15' at *
    subst e15
    have cc := K15.cell
    simp at cc
    have cw := K15w.cell
    have fw := K15w.frozen
    simp at cw
    obtain ⟨w16, e16, K16, B16, hk16⟩ := eight_setS K15w (.int .i64 p) (.int .i64 f) (.int .i64 q2) (.int .u32 h) (.int .u32 j) (.int .u32 b) (.int .u32 t) (.int .u32 d) w.heap.size (Nat.le_refl _)
    have c16 := K16.cell
    simp at c16
    have O016 := O015.new_ hk16 (Nat.le_refl _) (B16.mono (Nat.zero_le _))
    have I16 := I15.at_ (hk16 g (by omega))
    go_wp2_with fail
    refine bodyPost_ret (v := .agg #[.int .i64 p, .int .i64 f, .int .i64 q2, .int .u32 h, .int .u32 j, .int .u32 b, .int .u32 t, .int .u32 d]) ?_ rfl ⟨by rw [HV.out]; rfl, I16, O016⟩
    simp [results, Try.results28, go_sem, c16]
  · have hq2 : q = q2 := by rw [← HQ2.out]; unfold sgn24; rw [if_neg hs8]
    subst hq2
    go_upto_region 6 with fail
    obtain ⟨w8, hw8⟩ : ∃ w8, w8 = w7 := ⟨_, rfl⟩
    subst hw8
    have Ka8 := Ka7
    have O08 := O07
    have I8 := I7
    have K8 := K7
    clear ca7 fa7 Ka7 K7 I7 O07
    go_wp2_with fail
    refine (R5.out w8 I8).mono ?_
    rintro e w9 ⟨rfl, I9, O9⟩
    go_wp2_with fail
    refine (R6.out w9 I9).mono ?_
    rintro e w10 ⟨rfl, I10, O10⟩
    go_wp2_with fail
    refine (R7.out w10 I10).mono ?_
    rintro e w11 ⟨rfl, I11, O11⟩
    go_wp2_with fail
    refine (R8.out w11 I11).mono ?_
    rintro e w12 ⟨rfl, I12, O12⟩
    go_wp2_with fail
    refine (R9.out w12 I12).mono ?_
    rintro e w13 ⟨rfl, I13, O13⟩
    go_wp2_with fail
    refine (R0.out w13 I13).mono ?_
    rintro e w14 ⟨rfl, I14, O14⟩
    have OA := O9.trans (O10.trans (O11.trans (O12.trans (O13.trans O14))))
    have Kb := OA.blk Ka8 n3g
    have K14 := OA.blk K8 (by omega)
    have O014 := O08.trans OA
    clear I9 O9 I10 O10 I11 O11 I12 O12 I13 O13 O14 OA I8 Ka8 K8 O08
    have cb := Kb.cell
    have fb := Kb.frozen
    simp at cb
    obtain ⟨w15, e15, K15, B15, hk15⟩ := Kb.tail5_ (.int .u32 h) (.int .u32 j) (.int .u32 b) (.int .u32 t) (.int .u32 d) 0 (Nat.zero_le _)
    have O015 := O014.new_ hk15 n3l B15
    have I15 := I14.at_ (hk15 g (Ne.symm n3g))
    have K15w : Blk w15 w.heap.size 67 _ := (hk15 _ (Ne.symm n3w)).trans K14
    clear I14 O014 K14 hk15 B15
    go_upto_region 8 with fail
    clear cb fb Kb
    generalize ((((w14.setCell ⟨ga, 3, none⟩ (.int .u32 h)).setCell ⟨ga, 4, none⟩ (.int .u32 j)).setCell ⟨ga, 5, none⟩ (.int .u32 b)).setCell ⟨ga, 6, none⟩ (.int .u32 t)).setCell ⟨ga, 7, none⟩ (.int .u32 d) = w15' at *
    subst e15
    have cc := K15.cell
    simp at cc
    have cw := K15w.cell
    have fw := K15w.frozen
    simp at cw
    obtain ⟨w16, e16, K16, B16, hk16⟩ := eight_setS K15w (.int .i64 p) (.int .i64 f) (.int .i64 q) (.int .u32 h) (.int .u32 j) (.int .u32 b) (.int .u32 t) (.int .u32 d) w.heap.size (Nat.le_refl _)
    have c16 := K16.cell
    simp at c16
    have O016 := O015.new_ hk16 (Nat.le_refl _) (B16.mono (Nat.zero_le _))
    have I16 := I15.at_ (hk16 g (by omega))
    go_wp2_with fail
    refine bodyPost_ret (v := .agg #[.int .i64 p, .int .i64 f, .int .i64 q, .int .u32 h, .int .u32 j, .int .u32 b, .int .u32 t, .int .u32 d]) ?_ rfl ⟨by rw [HV.out]; rfl, I16, O016⟩
    simp [results, Try.results28, go_sem, c16]
end Go.Proofs.Ytliilcadlijnoaa
