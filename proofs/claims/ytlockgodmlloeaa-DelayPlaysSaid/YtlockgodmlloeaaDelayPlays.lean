/- DelayPlays, walked: it returns true. No condition but the frame's. -/
import Derived.Test.YtlockgodmlloeaaDelayRun
import Derived.Test.YtlockgodmlloeaaRegion
import Derived.Deep.DeepCutAuto
namespace Go.Proofs.Ytlockgodmlloeaa
open Go.RowKit BigFrame
attribute [local go_sem ↓] Go.wp_at_zero Go.wp_at_succ
attribute [local go_sem] refd_eql1 refd_neq1 refd_guard

set_option maxRecDepth 8000 in
set_option maxHeartbeats 12000000 in
theorem DelayPlays_walk (a0x0 : Int) (a0x1 : Int) (a0x2 : Int) (a1a : Option Addr) (a1l a1c : Nat) (a1e0 : Nat → Int) (a2a : Option Addr) (a2l a2c : Nat) (a2e0 : Nat → Bool) (w : World) (_w0 : (Lit.int .i64 a0x0).wf = true) (_w1 : (Lit.int .i64 a0x1).wf = true) (_w2 : (Lit.int .i64 a0x2).wf = true) (a1S : SliceOf w a1a a1l a1c 1 (fun i => [.int .i64 (a1e0 i)])) (_a1F0 : ∀ i, i < a1l → (Lit.int .i64 (a1e0 i)).wf = true) (a2S : SliceOf w a2a a2l a2c 1 (fun i => [.bool (a2e0 i)])) :
    Calls Try.prog 6 #[.agg #[.int .i64 a0x0, .int .i64 a0x1, .int .i64 a0x2], .slice a1a a1l a1c, .slice a2a a2l a2c] w fun e w' => e = .returned (.bool true) ∧ Below w.heap.size w w' := by
  clear _w0 _w1 _w2 _a1F0
  have hl1 := a1S.size_le
  have hl2 := a2S.size_le
  have HS1 := Lib.hid a1S
  have HS2 := Lib.hid a2S
  clear a1S a2S
  go_enter Try.func6, Try.ntmps6
  go_wp2_with fail
  refine (law25_awake _).mono ?_
  rintro e w1 ⟨rfl, hb1⟩
  have k1 := (Blk.new w 23 #[.int .i64 a0x0, .int .i64 a0x1, .int .i64 a0x2]).below hb1 (by simp)
  have B1 : Below w.heap.size w w1 := ((Below.refl _ w).alloc (Nat.le_refl _) _).trans (hb1.mono (by simp))
  have k1_c := k1.cell; have k1_f := k1.frozen; have k1_ca := fun o => (k1.alloc o).cell; have k1_fa := fun o => (k1.alloc o).frozen; have k1_cb := fun o o' => ((k1.alloc o).alloc o').cell; have k1_fb := fun o o' => ((k1.alloc o).alloc o').frozen
  clear hb1
  go_upto_region 3 with fail
  go_cut [7, 8] (fun s7 s8 wx => ∃ g7 g8 : Nat, s7 = .pointer (some ⟨g7, 0, none⟩) ∧ s8 = .pointer (some ⟨g8, 0, none⟩) ∧ Blk wx g7 25 #[.int .i64 a0x0, .int .i64 a0x1, .int .i64 a0x2] ∧ Blk wx g8 23 #[.int .i64 a0x0, .int .i64 a0x1, .int .i64 a0x2] ∧ Blk wx w.heap.size 23 #[.int .i64 a0x0, .int .i64 a0x1, .int .i64 a0x2] ∧ w.heap.size < g7 ∧ w.heap.size < g8 ∧ Below w.heap.size w wx)
  case first =>
    go_region
    · clear k1_c k1_f k1_ca k1_fa k1_cb k1_fb
      go_wp2_with fail
      go_meet
      exact ⟨w1.heap.size, w1.heap.size + 1, rfl, rfl, (Blk.new _ _ _).alloc _, Blk.new1 _ _ _ _, (k1.alloc _).alloc _, k1.lt, Nat.lt_succ_of_lt k1.lt, ((B1.alloc B1.size _).alloc (Nat.le_trans B1.size (by simp)) _).drew⟩
    · clear k1_c k1_f k1_ca k1_fa k1_cb k1_fb
      go_wp2_with fail
      go_meet
      exact ⟨w1.heap.size + 1, w1.heap.size, rfl, rfl, Blk.new1 _ _ _ _, (Blk.new _ _ _).alloc _, (k1.alloc _).alloc _, Nat.lt_succ_of_lt k1.lt, k1.lt, ((B1.alloc B1.size _).alloc (Nat.le_trans B1.size (by simp)) _).drew⟩
  case rest =>
    obtain ⟨g7, g8, rfl, rfl, k7, k8, k3, l7, l8, B2⟩ := hcut
    clear k1_c k1_f k1_ca k1_fa k1_cb k1_fb
    clear k1 B1
    go_wp2_with fail
    go_loopw [9] (fun i wr => ∃ (k : Nat) (x : D3), k ≤ a1l ∧ k ≤ 60 ∧ i = .int .i64 k ∧
        Blk wr g7 25 #[.int .i64 x.a, .int .i64 x.b, .int .i64 x.c] ∧ Blk wr g8 23 #[.int .i64 x.a, .int .i64 x.b, .int .i64 x.c] ∧ Blk wr w.heap.size 23 #[.int .i64 a0x0, .int .i64 a0x1, .int .i64 a0x2] ∧ Below w.heap.size w wr)
      (fun i _ => a1l - (intOf i).toNat)
    case atStart => exact ⟨0, ⟨a0x0, a0x1, a0x2⟩, Nat.zero_le _, Nat.zero_le _, rfl, k7, k8, k3, B2⟩
    case round =>
      clear k7 k8 k3 B2
      obtain ⟨k, x, hk, hk6, rfl, k7, k8, k3, B2⟩ := hrel
      by_cases hgo : k < a1l ∧ k < 60
      · obtain ⟨hlt, h60⟩ := hgo
        obtain ⟨b, off, rfl, hbb, hcell⟩ := HS1.out.at1 (by omega)
        have hc0 := (B2.cell (p := ⟨b, off + k, none⟩) hbb).trans (hcell k hlt)
        clear hcell
        have i0 : (0 : Int) ≤ (k : Int) := by omega
        have i1 : (k : Int) < (a1l : Int) := by omega
        have i2 : (k : Int) < 60 := by omega
        have s1 : IntKind.i64.wrap ((k : Int) + 1) = ((k + 1 : Nat) : Int) := by rw [IntWalk.i64_in _ (by omega)]; omega
        have bz : b < wr.heap.size := Nat.lt_of_lt_of_le hbb B2.size
        have l78 : g7 ≠ g8 := Blk.ne_ k7 k8 (by decide)
        have after : ∀ y : D3, FitD y → ∀ gq : Ext wr, True := fun _ _ _ => trivial
        have hlate : (∃ bt, a2l ≤ k ∧ bt = false) ∨ (k < a2l ∧ ∃ bt, a2e0 k = bt) := by
          rcases Nat.lt_or_ge k a2l with h | h
          · exact .inr ⟨h, _, rfl⟩
          · exact .inl ⟨_, h, rfl⟩
        have e7 := fun (g : Ext wr) (i : Nat) (v : Value) (h : wr.cell? ⟨g7, i, none⟩ = some v) => g.cell h k7.lt
        have E70 := fun g => e7 g 0 _ (k7.cell 0)
        have E71 := fun g => e7 g 1 _ (k7.cell 1)
        have E72 := fun g => e7 g 2 _ (k7.cell 2)
        have e8 := fun (g : Ext wr) (i : Nat) (v : Value) (h : wr.cell? ⟨g8, i, none⟩ = some v) => g.cell h k8.lt
        have E80 := fun g => e8 g 0 _ (k8.cell 0)
        have E81 := fun g => e8 g 1 _ (k8.cell 1)
        have E82 := fun g => e8 g 2 _ (k8.cell 2)
        have E9 := fun (g : Ext wr) => g.cell hc0 bz
        clear e7 e8
        have hfin : ∀ y : D3, FitD y → ∀ gq : Ext wr, ∃ w2, (((((gq.world.setCell ⟨g7, 0, none⟩ (.int .i64 y.a)).setCell ⟨g7, 1, none⟩ (.int .i64 y.b)).setCell ⟨g7, 2, none⟩ (.int .i64 y.c)).setCell ⟨g8, 0, none⟩ (.int .i64 y.a)).setCell ⟨g8, 1, none⟩ (.int .i64 y.b)).setCell ⟨g8, 2, none⟩ (.int .i64 y.c) = w2 ∧
            Blk w2 g7 25 #[.int .i64 y.a, .int .i64 y.b, .int .i64 y.c] ∧ Blk w2 g8 23 #[.int .i64 y.a, .int .i64 y.b, .int .i64 y.c] ∧ Blk w2 w.heap.size 23 #[.int .i64 a0x0, .int .i64 a0x1, .int .i64 a0x2] ∧ Below w.heap.size w w2 := by
          intro y _ gq
          have q7 := k7.below gq.below k7.lt
          have q8 := k8.below gq.below k8.lt
          have q3 := k3.below gq.below k3.lt
          have BQ : Below w.heap.size w gq.world := B2.trans (gq.below.mono B2.size)
          obtain ⟨w2, e2, k7', B4, hk4⟩ := three_set q7 rfl (.int .i64 y.a) (.int .i64 y.b) (.int .i64 y.c) w.heap.size (Nat.le_of_lt l7)
          rw [e2]
          have q8 := (hk4 _ (Ne.symm l78)).trans q8
          have q3 := (hk4 _ (by omega)).trans q3
          obtain ⟨w3, e3, k8', B5, hk5⟩ := three_set q8 rfl (.int .i64 y.a) (.int .i64 y.b) (.int .i64 y.c) w.heap.size (Nat.le_of_lt l8)
          rw [e3]
          exact ⟨w3, rfl, (hk5 _ l78).trans k7', k8', (hk5 _ (by omega)).trans q3, (BQ.trans B4).trans B5⟩
        have HFIN := Lib.hid hfin
        clear hfin
        have hround : ∀ y : D3, FitD y → True := fun _ _ => trivial
        clear hround
        have k7_c := k7.cell
        have k8_c := k8.cell
        have H1 := HS2.out
        rcases hlate with ⟨bt, hge, rfl⟩ | ⟨hlt2, bt, hbt⟩
        · have j1 : decide ((k : Int) < (a2l : Int)) = false := by simp; omega
          clear H1
          · obtain ⟨y, hy⟩ : ∃ y, jitD x (a1e0 k) = y := ⟨_, rfl⟩
            have hfy : FitD y := by rw [← hy]; exact jitD_fit x (a1e0 k)
            have HO := Lib.hid (fun W => delay_Jitter x y _ hy W)
            have HX := Lib.hid (fun W => ref25_Jitter x y _ hy W)
            unfold FitD at hfy
            obtain ⟨y1, y2, y3, y4, y5⟩ := hfy
            clear hy
            simp at k7_c k8_c E70 E71 E72 E80 E81 E82
            go_wp2_with fail
            refine wp_region_ext_tail 12 (by kernel_rfl) (by kernel_rfl) ?_; simp only [List.take_succ_cons, List.take_zero, List.drop_succ_cons, List.drop_zero]; (repeat (go_big_quiet_step ((first | (go_at_call 10; with_reducible exact calls_ext _ (HO.out _)) | (go_at_call 15; with_reducible exact calls_ext _ (HX.out _)))))); refine wpQuiet_nil ?_; rintro _ ⟨gq, rfl⟩
            obtain ⟨w2, e2, k7', k8', k3', B3⟩ := HFIN.out y ⟨by omega, by omega, by omega, by omega, by omega⟩ gq
            have q7 := k7.below gq.below k7.lt
            have q8 := k8.below gq.below k8.lt
            have q7_c := q7.cell
            have q7_f := q7.frozen
            have q8_c := q8.cell
            have q8_f := q8.frozen
            have q7_l := q7.lt
            have q8_l := q8.lt
            simp at q7_c q8_c
            clear E70 E71 E72 E80 E81 E82 k7_c k8_c
            go_upto_region 10 with fail
            try rw [e2]
            clear e2 q7_c q7_f q8_c q8_f
            have q7_c := k7'.cell
            have q8_c := k8'.cell
            simp at q7_c q8_c
            go_wp2_with fail
            go_roundw
            case rel => exact ⟨k + 1, y, by omega, by omega, rfl, k7', k8', k3', B3⟩
            case measure => simp only [intOf]; omega
        · obtain ⟨b2, off2, rfl, hbb2, hcell2⟩ := HS2.out.at1 (by omega)
          have hc2 := (B2.cell (p := ⟨b2, off2 + k, none⟩) hbb2).trans (hcell2 k hlt2)
          simp only [hbt] at hc2
          clear hcell2 H1
          have i3 : (k : Int) < (a2l : Int) := by omega
          have j1 : decide ((k : Int) < (a2l : Int)) = true := by simp; omega
          cases bt
          · obtain ⟨y, hy⟩ : ∃ y, jitD x (a1e0 k) = y := ⟨_, rfl⟩
            have hfy : FitD y := by rw [← hy]; exact jitD_fit x (a1e0 k)
            have HO := Lib.hid (fun W => delay_Jitter x y _ hy W)
            have HX := Lib.hid (fun W => ref25_Jitter x y _ hy W)
            unfold FitD at hfy
            obtain ⟨y1, y2, y3, y4, y5⟩ := hfy
            clear hy
            simp at k7_c k8_c E70 E71 E72 E80 E81 E82
            go_wp2_with fail
            refine wp_region_ext_tail 12 (by kernel_rfl) (by kernel_rfl) ?_; simp only [List.take_succ_cons, List.take_zero, List.drop_succ_cons, List.drop_zero]; (repeat (go_big_quiet_step ((first | (go_at_call 10; with_reducible exact calls_ext _ (HO.out _)) | (go_at_call 15; with_reducible exact calls_ext _ (HX.out _)))))); refine wpQuiet_nil ?_; rintro _ ⟨gq, rfl⟩
            obtain ⟨w2, e2, k7', k8', k3', B3⟩ := HFIN.out y ⟨by omega, by omega, by omega, by omega, by omega⟩ gq
            have q7 := k7.below gq.below k7.lt
            have q8 := k8.below gq.below k8.lt
            have q7_c := q7.cell
            have q7_f := q7.frozen
            have q8_c := q8.cell
            have q8_f := q8.frozen
            have q7_l := q7.lt
            have q8_l := q8.lt
            simp at q7_c q8_c
            clear E70 E71 E72 E80 E81 E82 k7_c k8_c
            go_upto_region 10 with fail
            try rw [e2]
            clear e2 q7_c q7_f q8_c q8_f
            have q7_c := k7'.cell
            have q8_c := k8'.cell
            simp at q7_c q8_c
            go_wp2_with fail
            go_roundw
            case rel => exact ⟨k + 1, y, by omega, by omega, rfl, k7', k8', k3', B3⟩
            case measure => simp only [intOf]; omega
          · obtain ⟨y, hy⟩ : ∃ y, lateD x (a1e0 k) = y := ⟨_, rfl⟩
            have hfy : FitD y := by rw [← hy]; exact lateD_fit x (a1e0 k)
            have HO := Lib.hid (fun W => delay_Late x y _ hy W)
            have HX := Lib.hid (fun W => ref25_Late x y _ hy W)
            unfold FitD at hfy
            obtain ⟨y1, y2, y3, y4, y5⟩ := hfy
            clear hy
            simp at k7_c k8_c E70 E71 E72 E80 E81 E82
            go_wp2_with fail
            refine wp_region_ext_tail 12 (by kernel_rfl) (by kernel_rfl) ?_; simp only [List.take_succ_cons, List.take_zero, List.drop_succ_cons, List.drop_zero]; (repeat (go_big_quiet_step ((first | (go_at_call 11; with_reducible exact calls_ext _ (HO.out _)) | (go_at_call 14; with_reducible exact calls_ext _ (HX.out _)))))); refine wpQuiet_nil ?_; rintro _ ⟨gq, rfl⟩
            obtain ⟨w2, e2, k7', k8', k3', B3⟩ := HFIN.out y ⟨by omega, by omega, by omega, by omega, by omega⟩ gq
            have q7 := k7.below gq.below k7.lt
            have q8 := k8.below gq.below k8.lt
            have q7_c := q7.cell
            have q7_f := q7.frozen
            have q8_c := q8.cell
            have q8_f := q8.frozen
            have q7_l := q7.lt
            have q8_l := q8.lt
            simp at q7_c q8_c
            clear E70 E71 E72 E80 E81 E82 k7_c k8_c
            go_upto_region 10 with fail
            try rw [e2]
            clear e2 q7_c q7_f q8_c q8_f
            have q7_c := k7'.cell
            have q8_c := k8'.cell
            simp at q7_c q8_c
            go_wp2_with fail
            go_roundw
            case rel => exact ⟨k + 1, y, by omega, by omega, rfl, k7', k8', k3', B3⟩
            case measure => simp only [intOf]; omega
      · have j1 : (decide ((k : Int) < (a1l : Int)) && decide ((k : Int) < 60)) = false := by simp; omega
        obtain ⟨n, hn⟩ : ∃ n, fitD ⟨a0x0, a0x1, a0x0⟩ = n := ⟨_, rfl⟩
        obtain ⟨m, hm⟩ : ∃ m, fitD ⟨a0x0, a0x1, a0x2⟩ = m := ⟨_, rfl⟩
        have HN := Lib.hid (fun W => delay_New a0x0 a0x1 _ hn W)
        have HF1 := Lib.hid (fun W => ref25_Fit ⟨a0x0, a0x1, a0x0⟩ _ hn W)
        have HF2 := Lib.hid (fun W => ref25_Fit ⟨a0x0, a0x1, a0x2⟩ _ hm W)
        have HR := Lib.hid (fun W => delay_Run ⟨a0x0, a0x1, a0x2⟩ none 0 0 (fun _ => 0) _ hm W (SliceOf.nil W _ _))
        have l3 := k3.lt
        have E30 := fun (g : Ext wr) => g.cell (k3.cell 0) l3
        have E31 := fun (g : Ext wr) => g.cell (k3.cell 1) l3
        have E32 := fun (g : Ext wr) => g.cell (k3.cell 2) l3
        simp at E30 E31 E32
        clear hn hm hk hk6
        by_cases h1 : k < a1l
        · have j2 : decide ((k : Int) < (a1l : Int)) = true := by simp; omega
          have j3 : decide ((k : Int) < 60) = false := by simp; omega
          go_wp2_with fail
          refine wp_region_ext (by kernel_rfl) (by kernel_rfl) ?_; (repeat (go_big_quiet_step ((first | (go_at_call 12; with_reducible exact calls_ext _ (HN.out _)) | (go_at_call 9; with_reducible exact calls_ext _ (HF1.out _)) | (go_at_call 9; with_reducible exact calls_ext _ (HF2.out _)) | (go_at_call 13; with_reducible exact calls_ext _ (HR.out _)))))); refine wpQuiet_nil ?_; rintro _ ⟨gq, rfl⟩
          go_wp2_with fail
          go_ret
          exact ⟨rfl, B2.trans (gq.below.mono B2.size)⟩
        · have j2 : decide ((k : Int) < (a1l : Int)) = false := by simp; omega
          go_wp2_with fail
          refine wp_region_ext (by kernel_rfl) (by kernel_rfl) ?_; (repeat (go_big_quiet_step ((first | (go_at_call 12; with_reducible exact calls_ext _ (HN.out _)) | (go_at_call 9; with_reducible exact calls_ext _ (HF1.out _)) | (go_at_call 9; with_reducible exact calls_ext _ (HF2.out _)) | (go_at_call 13; with_reducible exact calls_ext _ (HR.out _)))))); refine wpQuiet_nil ?_; rintro _ ⟨gq, rfl⟩
          go_wp2_with fail
          go_ret
          exact ⟨rfl, B2.trans (gq.below.mono B2.size)⟩
end Go.Proofs.Ytlockgodmlloeaa
