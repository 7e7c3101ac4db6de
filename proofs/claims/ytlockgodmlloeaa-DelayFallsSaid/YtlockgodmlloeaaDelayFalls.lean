/- DelayFalls, walked: it returns true. No condition but the frame's. -/
import Derived.Test.YtlockgodmlloeaaDelayRun
import Derived.Test.YtlockgodmlloeaaRegion
import Derived.Deep.DeepCutAuto
import Derived.Deep.OwnRows
namespace Go.Proofs.Ytlockgodmlloeaa
open Go.RowKit BigFrame
attribute [local go_sem ↓] Go.wp_at_zero Go.wp_at_succ
attribute [local go_sem] refd_eql1 refd_neq1 refd_guard fld_own2 i64_and255

theorem jit0 (x : D3) (h : FitD x) : jitD x 0 = if x.a < x.c then ⟨x.a, x.b, x.c - 1⟩ else x := by
  unfold jitD
  rw [fitD_id x h]
  unfold FitD at h
  unfold clipI
  obtain ⟨a, b, c⟩ := x
  simp only at *
  rw [if_neg (by omega)]
  by_cases hlt : a < c
  · rw [if_pos (by omega), if_pos hlt]
  · rw [if_neg (by omega), if_neg hlt]
theorem run0 (x : D3) (h : FitD x) (n : Nat) (hn : (n : Int) ≤ x.c - x.a) : runD x (fun _ => 0) n = ⟨x.a, x.b, x.c - n⟩ := by
  induction n with
  | zero => show fitD x = _; rw [fitD_id x h]; simp
  | succ n ih =>
    show jitD (runD x (fun _ => 0) n) 0 = _
    rw [ih (by omega)]
    unfold FitD at h
    rw [jit0 _ (by unfold FitD; simp only; omega)]
    simp only
    rw [if_pos (by omega)]
    have e : x.c - (n : Int) - 1 = x.c - ((n + 1 : Nat) : Int) := by omega
    rw [e]
theorem jit_new (a b j c : Int) (h0 : 0 ≤ a) (h1 : a ≤ b) (h2 : b ≤ 1048576) (hc : min b (a + 4 * clipI j 0 1048576) = c) : jitD ⟨a, b, a⟩ j = ⟨a, b, c⟩ := by
  have hj := clip_bd j 0 1048576 (by omega)
  unfold jitD
  rw [fitD_id ⟨a, b, a⟩ (by unfold FitD; simp only; omega)]
  simp only
  rw [hc]
  by_cases hlt : a < c
  · rw [if_pos hlt]
  · have : c = a := by omega
    subst this
    rw [if_neg (by omega), if_neg (by omega)]
theorem SliceOf.made (w : World) (z : Value) (n : Nat) (t : TypeId) (hn : n ≤ 9223372036854775807) : SliceOf (w.alloc (.cells (madeCells #[z] n) t)) (some ⟨w.heap.size, 0, none⟩) n n 1 (fun _ => [z]) := by
  refine ⟨Nat.le_refl _, by rw [maxLen_eq]; exact hn, fun _ => ⟨_, _, rfl, by simp, fun i hi j v hv => ?_⟩⟩
  have hk := (Blk.new w t (madeCells #[z] n)).cell i
  obtain rfl : j = 0 := by
    rcases j with _ | j
    · rfl
    · simp at hv
  simp only [Nat.zero_add, Nat.mul_one, Nat.add_zero]
  rw [hk, ← Array.getElem?_toList, toList_madeCells_one]
  simp only [List.getElem?_replicate, hi, if_true]
  simpa using hv
theorem SliceOf.drop1 {w : World} {b : Nat} {n : Nat} {E : Nat → List Value} (h : SliceOf w (some ⟨b, 0, none⟩) (n + 1) (n + 1) 1 E) : SliceOf w (some ⟨b, 1, none⟩) n n 1 (fun i => E (i + 1)) := by
  obtain ⟨_, h2, h3⟩ := h
  refine ⟨Nat.le_refl _, by omega, fun _ => ?_⟩
  obtain ⟨b', off, e, hb, hc⟩ := h3 (by omega)
  injection e with e
  injection e with e1 e2
  subst e1 e2
  refine ⟨_, _, rfl, hb, fun i hi j v hv => ?_⟩
  have := hc (i + 1) (by omega) j v hv
  simpa [Nat.add_comm, Nat.add_left_comm, Nat.add_assoc] using this
theorem SliceOf.drop1' {w : World} {b : Nat} {n : Nat} {E : Nat → List Value} (h : SliceOf w (some ⟨b, 0, none⟩) (n + 1) (n + 1) 1 E) : SliceOf w (if n = 0 then some ⟨b, 0, none⟩ else some ⟨b, 1, none⟩) n n 1 (fun i => E (i + 1)) := by
  by_cases h0 : n = 0
  · subst h0
    exact ⟨Nat.le_refl _, Nat.zero_le _, fun hl => absurd hl (by omega)⟩
  · rw [if_neg h0]; exact h.drop1

set_option maxRecDepth 8000 in
set_option maxHeartbeats 12000000 in
theorem DelayFalls_walk (a0 : Int) (a1 : Int) (a2 : Int) (w : World) (_w0 : (Lit.int .i64 a0).wf = true) (_w1 : (Lit.int .i64 a1).wf = true) (_w2 : (Lit.int .i64 a2).wf = true) :
    Calls Try.prog 5 #[.int .i64 a0, .int .i64 a1, .int .i64 a2] w fun e w' => e = .returned (.bool true) ∧ Below w.heap.size w w' := by
  clear _w0 _w1 _w2
  obtain ⟨a, ha⟩ : ∃ a, a0 % 256 = a := ⟨_, rfl⟩
  obtain ⟨d, hd⟩ : ∃ d, a1 % 256 = d := ⟨_, rfl⟩
  obtain ⟨b, hb⟩ : ∃ b, a + d = b := ⟨_, rfl⟩
  obtain ⟨q, hq⟩ : ∃ q, clipI a2 0 1048576 = q := ⟨_, rfl⟩
  obtain ⟨c, hc⟩ : ∃ c, min b (a + 4 * q) = c := ⟨_, rfl⟩
  have bq := clip_bd a2 0 1048576 (by omega)
  rw [hq] at bq
  obtain ⟨bq1, bq2⟩ := bq
  obtain ⟨n, hn⟩ : ∃ n : Nat, c - a = n := ⟨(c - a).toNat, by omega⟩
  have a_1 : 0 ≤ a := by omega
  have a_2 : a ≤ 255 := by omega
  have b_1 : a ≤ b := by omega
  have b_2 : b ≤ 510 := by omega
  have c_1 : a ≤ c := by omega
  have c_2 : c ≤ b := by omega
  have hnew : fitD ⟨a, b, a⟩ = ⟨a, b, a⟩ := fitD_id _ (by unfold FitD; simp only; omega)
  have hjit : jitD ⟨a, b, a⟩ a2 = ⟨a, b, c⟩ := jit_new a b a2 c a_1 b_1 (by omega) (by rw [hq]; exact hc)
  have hF : FitD ⟨a, b, c⟩ := by unfold FitD; simp only; omega
  have hrun : runD ⟨a, b, c⟩ (fun _ => 0) n = ⟨a, b, a⟩ := by
    rw [run0 _ hF n (by simp only; omega)]
    have e : c - (n : Int) = a := by omega
    show (⟨a, b, c - (n : Int)⟩ : D3) = _
    rw [e]
  have hj2 : jitD ⟨a, b, a⟩ 0 = ⟨a, b, a⟩ := by
    rw [jit0 _ (by unfold FitD; simp only; omega)]
    exact if_neg (by simp only; omega)
  have HN := Lib.hid (fun W => delay_New a b _ hnew W)
  have HJ := Lib.hid (fun W => delay_Jitter ⟨a, b, a⟩ _ a2 hjit W)
  have HJ2 := Lib.hid (fun W => delay_Jitter ⟨a, b, a⟩ _ 0 hj2 W)
  have HR := Lib.hid (fun A W hS => delay_Run ⟨a, b, c⟩ A n n (fun _ => 0) _ hrun W hS)
  have m1 : min a2 1048576 = min a2 1048576 := rfl
  obtain ⟨m, hm⟩ : ∃ m, (if 1048576 < a2 then 1048576 else a2) = m := ⟨_, rfl⟩
  have hm2 : (if 0 < m then m else 0) = q := by rw [← hm, ← hq]; unfold clipI; split <;> split <;> omega
  have s0 : IntKind.i64.wrap (a + d) = b := by rw [IntWalk.i64_in _ (by omega)]; exact hb
  have s1 : IntKind.i64.wrap (4 * q) = 4 * q := IntWalk.i64_in _ (by omega)
  have s2 : IntKind.i64.wrap (a + 4 * q) = a + 4 * q := IntWalk.i64_in _ (by omega)
  have s3 : (if a + 4 * q < b then a + 4 * q else b) = c := by rw [← hc]; split <;> omega
  have s4 : IntKind.i64.wrap (c - a) = (n : Int) := by rw [IntWalk.i64_in _ (by omega)]; exact hn
  have s5 : IntKind.i64.wrap (a + 1) = a + 1 := IntWalk.i64_in _ (by omega)
  have hmk := run_make_row' (P := Try.prog) 31 3 (.int .i64 0) 8 Try.underlying31 (by kernel_rfl) rfl .i64 .i64 n (by omega) (by omega)
  have hn1 : n ≤ 255 := by omega
  have hcn : c = a + n := by omega
  have HQ := Lib.hid hcn
  clear m1 hnew hjit hrun hj2 hq hb hc hn hF hcn
  go_enter Try.func5, Try.ntmps5
  go_wp2_with fail
  refine (law25_awake _).mono ?_
  rintro e w1 ⟨rfl, B1⟩
  go_wp2_with fail
  rw [ha, hd] at *
  refine (HN.out _).mono ?_
  rintro e w2 ⟨rfl, hb2⟩
  have B2 := below_then B1 hb2 (Nat.le_refl _)
  clear B1 hb2
  go_wp2_with fail
  refine (HJ.out _).mono ?_
  rintro e w3 ⟨rfl, hb3⟩
  have B3 := below_then B2 hb3 (Nat.le_refl _)
  clear B2 hb3
  have k4 := (Blk.new w3 25 #[.int .i64 a, .int .i64 b, .int .i64 c])
  have k4_c := k4.cell; have k4_f := k4.frozen; have k4_ca := fun o => (k4.alloc o).cell; have k4_fa := fun o => (k4.alloc o).frozen; have k4_cb := fun o o' => ((k4.alloc o).alloc o').cell; have k4_fb := fun o o' => ((k4.alloc o).alloc o').frozen
  have B4 : Below w.heap.size w (w3.alloc (.cells #[.int .i64 a, .int .i64 b, .int .i64 c] 25)) := B3.alloc B3.size _
  go_wp2_with fail
  have hS : SliceOf ((w3.alloc (.cells #[.int .i64 a, .int .i64 b, .int .i64 c] 25)).alloc (.cells (madeCells #[.int .i64 0] n) 3)) (some ⟨w3.heap.size + 1, 0, none⟩) n n 1 (fun _ => [.int .i64 0]) := by
    have := SliceOf.made (w3.alloc (.cells #[.int .i64 a, .int .i64 b, .int .i64 c] 25)) (.int .i64 0) n 3 (by omega)
    simpa using this
  refine (HR.out _ _ hS).mono ?_
  rintro e w5 ⟨rfl, hb5⟩
  have hS5 := hS.below hb5
  have k5 := (k4.alloc (.cells (madeCells #[.int .i64 0] n) 3)).below hb5 (by simp; omega)
  have B5 : Below w.heap.size w w5 := (B4.alloc B4.size _).trans (hb5.mono (Nat.le_trans B4.size (by simp)))
  clear hS hb5 hmk B4
  clear k4_c k4_f k4_ca k4_fa k4_cb k4_fb
  clear k4
  go_wp2_with fail
  have k6 := k5.alloc (.cells #[.int .i64 a, .int .i64 b, .int .i64 a] 25)
  have k7 := Blk.new w5 25 #[.int .i64 a, .int .i64 b, .int .i64 a]
  have hS6 := hS5.below ((Below.refl _ w5).alloc (Nat.le_refl _) (.cells #[.int .i64 a, .int .i64 b, .int .i64 a] 25))
  have B6 := B5.alloc B5.size (.cells #[.int .i64 a, .int .i64 b, .int .i64 a] 25)
  generalize w5.alloc (.cells #[.int .i64 a, .int .i64 b, .int .i64 a] 25) = w6 at *
  have E60 := fun (g : Ext w6) => g.cell (k6.cell 0) k6.lt
  have E61 := fun (g : Ext w6) => g.cell (k6.cell 1) k6.lt
  have E62 := fun (g : Ext w6) => g.cell (k6.cell 2) k6.lt
  have E70 := fun (g : Ext w6) => g.cell (k7.cell 0) k7.lt
  have E71 := fun (g : Ext w6) => g.cell (k7.cell 1) k7.lt
  have E72 := fun (g : Ext w6) => g.cell (k7.cell 2) k7.lt
  simp at E60 E61 E62 E70 E71 E72
  have HS := Lib.hid hS6
  clear hS5 hS6
  rcases n with _ | n
  · have j1 : (((0 : Nat) : Int) == 0) = true := rfl
    refine wp_region_ext (by kernel_rfl) (by kernel_rfl) ?_; (repeat (go_big_quiet_step ((first | (go_at_call 10; with_reducible exact calls_ext _ (HJ2.out _)))))); refine wpQuiet_nil ?_; rintro _ ⟨gq, rfl⟩
    go_wp2
    go_ret
    exact ⟨rfl, B6.trans (gq.below.mono B6.size)⟩
  · have j1 : ((((n + 1 : Nat)) : Int) == 0) = false := by simp; omega
    have j2 : decide ((((n + 1 : Nat)) : Int) = 0) = false := by simp; omega
    have j3 : decide ((n : Int) + 1 = 0) = false := by simp; omega
    have j4 : ((n : Int) + 1 == 0) = false := by simp; omega
    have hr2 : runD ⟨a, b, c⟩ (fun _ => 0) n = ⟨a, b, a + 1⟩ := by
      have := HQ.out
      rw [run0 _ (by unfold FitD; simp only; omega) n (by simp only; omega)]
      have e : c - (n : Int) = a + 1 := by omega
      show (⟨a, b, c - (n : Int)⟩ : D3) = _
      rw [e]
    have HR2 := Lib.hid (fun (g : Ext w6) => delay_Run ⟨a, b, c⟩ (if n = 0 then some ⟨w3.heap.size + 1, 0, none⟩ else some ⟨w3.heap.size + 1, 1, none⟩) n n (fun _ => 0) _ hr2 g.world (SliceOf.drop1' (HS.out.below g.below)))
    clear hr2
    refine wp_region_ext (by kernel_rfl) (by kernel_rfl) ?_; (repeat (go_big_quiet_step ((first | (go_at_call 10; with_reducible exact calls_ext _ (HJ2.out _)) | (go_at_call 13; with_reducible exact calls_ext _ (HR2.out _)))))); refine wpQuiet_nil ?_; rintro _ ⟨gq, rfl⟩
    go_wp2
    all_goals
      go_ret
      exact ⟨rfl, B6.trans (gq.below.mono B6.size)⟩
end Go.Proofs.Ytlockgodmlloeaa
