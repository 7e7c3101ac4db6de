/- The statements of layer 25, walked. -/
import Derived.Test.YtlockgodmlloeaaDelay2
namespace Go.Proofs.Ytlockgodmlloeaa
open Go.RowKit
attribute [local go_sem ↓] Go.wp_at_zero Go.wp_at_succ

theorem fld_own2 (a b c : Int) (w : World) : (Instr.field 25 (.agg #[.int .i64 a, .int .i64 b, .int .i64 c]) 2).run Try.prog w = .ok (.int .i64 c) w := by kernel_rfl
theorem fld_ref2 (a b c : Int) (w : World) : (Instr.field 23 (.agg #[.int .i64 a, .int .i64 b, .int .i64 c]) 2).run Try.prog w = .ok (.int .i64 c) w := by kernel_rfl
attribute [local go_sem] fld_own2 fld_ref2

/-- Whether it is time. -/
def dueD (d : D3) (first now : Int) : Bool := decide ((fitD d).c ≤ clipI now 0 1099511627776 - clipI first 0 1099511627776)

set_option maxHeartbeats 1000000 in
theorem delay_Due (d : D3) (first now : Int) (r : Bool) (h : dueD d first now = r) (w : World) :
    Calls Try.prog 8 #[.agg #[.int .i64 d.a, .int .i64 d.b, .int .i64 d.c], .int .i64 first, .int .i64 now] w fun e w' => e = .returned (.bool r) ∧ Below w.heap.size w w' := by
  obtain ⟨x, hx⟩ : ∃ x, clipI now 0 1099511627776 = x := ⟨_, rfl⟩
  obtain ⟨y, hy⟩ : ∃ y, clipI first 0 1099511627776 = y := ⟨_, rfl⟩
  have bx := clip_bd now 0 1099511627776 (by omega)
  have b_y := clip_bd first 0 1099511627776 (by omega)
  rw [hx] at bx
  rw [hy] at b_y
  obtain ⟨bx1, bx2⟩ := bx
  obtain ⟨by1, by2⟩ := b_y
  unfold dueD at h
  rw [hx, hy] at h
  obtain ⟨f, hf⟩ : ∃ f, fitD d = f := ⟨_, rfl⟩
  rw [hf] at h
  have HF := Lib.hid (fun W => delay_fit d _ hf W)
  have HX := Lib.hid (fun W => delay_clip _ _ _ _ hx W)
  have HY := Lib.hid (fun W => delay_clip _ _ _ _ hy W)
  have HR := Lib.hid h
  clear h hx hy hf
  have s1 : IntKind.i64.wrap (x - y) = x - y := IntWalk.i64_in _ (by omega)
  go_enter Try.func8, Try.ntmps8
  go_wp2_with fail
  have k1 := Blk.new w 25 #[.int .i64 d.a, .int .i64 d.b, .int .i64 d.c]
  have c0 := k1.cell 0
  have c1 := k1.cell 1
  have c2 := k1.cell 2
  simp at c0 c1 c2
  go_region_held3 (fun w' => w'.cell? ⟨w.heap.size, 0, none⟩ = some (.int .i64 d.a) ∧ w'.cell? ⟨w.heap.size, 1, none⟩ = some (.int .i64 d.b) ∧ w'.cell? ⟨w.heap.size, 2, none⟩ = some (.int .i64 d.c)) (first | go_keep | (go_split_ands; refine ⟨?_, ?_, ?_⟩ <;> (rw [hb.cell (by simp)]; simp [go_sem])))
    (first | (go_at_call 16; ((with_reducible refine (HX.out _).mono ?_); rintro e w' ⟨rfl, rfl⟩)) | (go_at_call 16; ((with_reducible refine (HY.out _).mono ?_); rintro e w' ⟨rfl, rfl⟩)) | (go_at_call 17; ((with_reducible refine (HF.out _).mono ?_); rintro e w1 ⟨rfl, hb⟩)))
  go_wp2
  go_ret
  refine ⟨ret_bool (by rw [← HR.out]), ?_⟩
  exact below_then (((Below.refl w.heap.size w).alloc (Nat.le_refl _) _).drew) hb (Nat.le_refl _)

set_option maxHeartbeats 1000000 in
theorem law25_awake (w : World) :
    Calls Try.prog 7 #[] w fun e w' => e = .returned (.bool true) ∧ Below w.heap.size w w' := by
  have e1 : fitD ⟨5, 50, 5⟩ = ⟨5, 50, 5⟩ := by decide
  have e2 : jitD ⟨5, 50, 5⟩ 3 = ⟨5, 50, 17⟩ := by decide
  have e3 : jitD ⟨5, 50, 17⟩ 0 = ⟨5, 50, 16⟩ := by decide
  have e4 : dueD ⟨5, 50, 17⟩ 3 20 = true := by decide
  have e5 : dueD ⟨5, 50, 17⟩ 3 19 = false := by decide
  have H1 := Lib.hid (fun W => delay_New 5 50 _ e1 W)
  have H2 := Lib.hid (fun W => delay_Jitter ⟨5, 50, 5⟩ _ 3 e2 W)
  have H3 := Lib.hid (fun W => delay_Jitter ⟨5, 50, 17⟩ _ 0 e3 W)
  have H4 := Lib.hid (fun W => delay_Due ⟨5, 50, 17⟩ 3 20 _ e4 W)
  have H5 := Lib.hid (fun W => delay_Due ⟨5, 50, 17⟩ 3 19 _ e5 W)
  clear e1 e2 e3 e4 e5
  go_enter Try.func7, Try.ntmps7
  go_wp2_with fail
  refine (H1.out _).mono ?_
  rintro e w1 ⟨rfl, hb1⟩
  go_wp2_with fail
  refine (H2.out _).mono ?_
  rintro e w2 ⟨rfl, hb2⟩
  have B2 : Below w.heap.size w w2 := hb1.trans (hb2.mono hb1.size)
  have hz2 := B2.size
  have k2 := Blk.new w2 25 #[.int .i64 5, .int .i64 50, .int .i64 17]
  clear hb1 hb2
  go_wp2_with fail
  refine (H3.out _).mono ?_
  rintro e w3 ⟨rfl, hb3⟩
  have k3 := k2.below hb3 (by simp)
  have B3 : Below w.heap.size w w3 := (B2.alloc B2.size _).trans (hb3.mono (by simp; omega))
  have c3 := k3.cell
  clear hb3 k2 B2
  go_wp2_with fail
  refine (H4.out _).mono ?_
  rintro e w4 ⟨rfl, hb4⟩
  have k4 := k3.below hb4 k3.lt
  have B4 : Below w.heap.size w w4 := B3.trans (hb4.mono B3.size)
  have c4 := k4.cell
  clear hb4 k3 B3 c3
  go_wp2_with fail
  refine (H5.out _).mono ?_
  rintro e w5 ⟨rfl, hb5⟩
  have B5 : Below w.heap.size w w5 := B4.trans (hb5.mono B4.size)
  go_wp2
  go_ret
  exact ⟨rfl, B5⟩

set_option maxHeartbeats 1000000 in
theorem DelayDue_walk (a0x0 : Int) (a0x1 : Int) (a0x2 : Int) (a1 : Int) (a2 : Int) (w : World) (_w0 : (Lit.int .i64 a0x0).wf = true) (_w1 : (Lit.int .i64 a0x1).wf = true) (_w2 : (Lit.int .i64 a0x2).wf = true) (_w3 : (Lit.int .i64 a1).wf = true) (_w4 : (Lit.int .i64 a2).wf = true) :
    Calls Try.prog 3 #[.agg #[.int .i64 a0x0, .int .i64 a0x1, .int .i64 a0x2], .int .i64 a1, .int .i64 a2] w fun e w' => e = .returned (.bool true) ∧ Below w.heap.size w w' := by
  clear _w0 _w1 _w2 _w3 _w4
  obtain ⟨f, hf⟩ : ∃ f, fitD ⟨a0x0, a0x1, a0x2⟩ = f := ⟨_, rfl⟩
  obtain ⟨r, hr⟩ : ∃ r, dueD ⟨a0x0, a0x1, a0x2⟩ a1 a2 = r := ⟨_, rfl⟩
  obtain ⟨x, hx⟩ : ∃ x, clipI a2 0 1099511627776 = x := ⟨_, rfl⟩
  obtain ⟨y, hy⟩ : ∃ y, clipI a1 0 1099511627776 = y := ⟨_, rfl⟩
  have hr2 : decide (f.c ≤ x - y) = r := by rw [← hr]; unfold dueD; rw [hf, hx, hy]
  have bx := clip_bd a2 0 1099511627776 (by omega)
  have b_y := clip_bd a1 0 1099511627776 (by omega)
  rw [hx] at bx
  rw [hy] at b_y
  obtain ⟨bx1, bx2⟩ := bx
  obtain ⟨by1, by2⟩ := b_y
  have cx := clip_cases _ _ _ _ (by omega) hx
  have cy := clip_cases _ _ _ _ (by omega) hy
  have HF := Lib.hid (fun W => ref25_Fit ⟨a0x0, a0x1, a0x2⟩ _ hf W)
  have HD := Lib.hid (fun W => delay_Due ⟨a0x0, a0x1, a0x2⟩ _ _ _ hr W)
  have HR := Lib.hid hr2
  clear hf hr hx hy hr2
  have s1 : IntKind.i64.wrap (x - y) = x - y := IntWalk.i64_in _ (by omega)
  rcases cx with ⟨p1, p2⟩ | ⟨p1, p3, p2⟩ | ⟨p1, p2⟩ <;> rcases cy with ⟨q1, q2⟩ | ⟨q1, q3, q2⟩ | ⟨q1, q2⟩
  all_goals
    subst p2 q2
    go_enter Try.func3, Try.ntmps3
    go_wp2_with fail
    refine (law25_awake _).mono ?_
    rintro e w1 ⟨rfl, hb1⟩
    have k1 := (Blk.new w 23 #[.int .i64 a0x0, .int .i64 a0x1, .int .i64 a0x2]).below hb1 (by simp)
    have B1 : Below w.heap.size w w1 := ((Below.refl _ w).alloc (Nat.le_refl _) _).trans (hb1.mono (by simp))
    have c0 := k1.cell 0
    have c1 := k1.cell 1
    have c2 := k1.cell 2
    have hz := k1.lt
    simp at c0 c1 c2
    clear hb1
    go_wp2_with fail
    go_region_held3 (fun w' => w'.cell? ⟨w.heap.size, 0, none⟩ = some (.int .i64 a0x0) ∧ w'.cell? ⟨w.heap.size, 1, none⟩ = some (.int .i64 a0x1) ∧ w'.cell? ⟨w.heap.size, 2, none⟩ = some (.int .i64 a0x2)) (first | go_keep | (go_split_ands; refine ⟨?_, ?_, ?_⟩ <;> (first | (rw [hb2.cell (by simpa using hz)]; assumption) | (rw [hb3.cell (by show w.heap.size < _; have := hb2.size; simp at this; omega)]; assumption))))
      (first | (go_at_call 8; ((with_reducible refine (HD.out _).mono ?_); rintro e w2 ⟨rfl, hb2⟩)) | (go_at_call 9; ((with_reducible refine (HF.out _).mono ?_); rintro e w3 ⟨rfl, hb3⟩)))
    have B2 := below_then B1.drew hb2 (Nat.le_refl _)
    have B3 := below_then B2 hb3 (Nat.le_refl _)
    have hr := HR.out
    rw [← hr]
    clear hr
    go_wp2
    go_ret
    exact ⟨ret_bool (by first | (simp; done) | (simp [IntKind.wrap_i64]; done) | (simp [IntKind.wrap_i64]; omega)), B3⟩

theorem jit_more (d : D3) (j k : Int) (h : j ≤ k) : (jitD d j).c ≤ (jitD d k).c ∧ (jitD d j).a = (jitD d k).a ∧ (jitD d j).b = (jitD d k).b ∧ (lateD d j).c ≤ (lateD d k).c := by
  have hf := fitD_fit d
  have hj := clip_bd j 0 1048576 (by omega)
  have hk := clip_bd k 0 1048576 (by omega)
  have hm : clipI j 0 1048576 ≤ clipI k 0 1048576 := by unfold clipI; omega
  unfold FitD at hf
  unfold jitD lateD
  generalize clipI j 0 1048576 = x at *
  generalize clipI k 0 1048576 = y at *
  generalize fitD d = f at *
  obtain ⟨a, b, c⟩ := f
  simp only at *
  refine ⟨?_, ?_, ?_, by omega⟩
  all_goals
    split <;> split <;> (try split) <;> (try split) <;> (simp only) <;> omega

end Go.Proofs.Ytlockgodmlloeaa
