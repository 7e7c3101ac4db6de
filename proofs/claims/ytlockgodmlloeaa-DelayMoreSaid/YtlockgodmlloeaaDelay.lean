/- Package delay and its reference, walked: each function computes the plain Lean function named here. No condition. -/
import Derived.Test.YtlockgodmlloeaaKit
namespace Go.Proofs.Ytlockgodmlloeaa
open Go.RowKit
attribute [local go_sem ↓] Go.wp_at_zero Go.wp_at_succ

structure D3 where
  a : Int
  b : Int
  c : Int
deriving DecidableEq
def fitD (d : D3) : D3 :=
  ⟨clipI d.a 0 1048576, clipI d.b (clipI d.a 0 1048576) 1048576, clipI d.c (clipI d.a 0 1048576) (clipI d.b (clipI d.a 0 1048576) 1048576)⟩
/-- A delay whose numbers count. -/
def FitD (d : D3) : Prop := 0 ≤ d.a ∧ d.a ≤ d.b ∧ d.b ≤ 1048576 ∧ d.a ≤ d.c ∧ d.c ≤ d.b
theorem fitD_fit (d : D3) : FitD (fitD d) := by
  unfold FitD fitD clipI; simp only; omega
theorem fitD_id (d : D3) (h : FitD d) : fitD d = d := by
  obtain ⟨a, b, c⟩ := d
  unfold FitD at h; simp only at h
  unfold fitD clipI; simp only [D3.mk.injEq]; omega
def jitD (d : D3) (j : Int) : D3 :=
  if (fitD d).c < min (fitD d).b ((fitD d).a + 4 * clipI j 0 1048576) then ⟨(fitD d).a, (fitD d).b, min (fitD d).b ((fitD d).a + 4 * clipI j 0 1048576)⟩
  else if min (fitD d).b ((fitD d).a + 4 * clipI j 0 1048576) < (fitD d).c then ⟨(fitD d).a, (fitD d).b, (fitD d).c - 1⟩ else fitD d
def lateD (d : D3) (j : Int) : D3 := ⟨(fitD d).a, (fitD d).b, min (fitD d).b ((fitD d).c + clipI j 0 1048576)⟩
theorem jitD_fit (d : D3) (j : Int) : FitD (jitD d j) := by
  have h := fitD_fit d
  have hj := clip_bd j 0 1048576 (by omega)
  unfold FitD at *
  unfold jitD
  split
  · simp only; omega
  · split
    · simp only; omega
    · exact h
theorem lateD_fit (d : D3) (j : Int) : FitD (lateD d j) := by
  have h := fitD_fit d
  have hj := clip_bd j 0 1048576 (by omega)
  unfold FitD at *
  unfold lateD
  simp only; omega

set_option maxHeartbeats 400000 in
theorem delay_clip (n lo hi r : Int) (h : clipI n lo hi = r) (w : World) :
    Calls Try.prog 16 #[.int .i64 n, .int .i64 lo, .int .i64 hi] w fun e w' => e = .returned (.int .i64 r) ∧ w = w' := by
  subst h
  go_enter Try.func16, Try.ntmps16
  go_wp2
  all_goals
    go_ret
    exact ⟨ret_int (by unfold clipI; omega), rfl⟩

set_option maxHeartbeats 400000 in
theorem delay_ticks (n r : Int) (h : clipI n 0 1048576 = r) (w : World) :
    Calls Try.prog 18 #[.int .i64 n] w fun e w' => e = .returned (.int .i64 r) ∧ w = w' := by
  have HR := Lib.hid h
  clear h
  go_enter Try.func18, Try.ntmps18
  go_wp2_with (go_at_call 16; ((with_reducible refine (delay_clip _ _ _ r HR.out _).mono ?_); rintro e w' ⟨rfl, rfl⟩))
  go_ret
  exact ⟨rfl, rfl⟩

set_option maxHeartbeats 400000 in
theorem delay_fit (d r : D3) (h : fitD d = r) (w : World) :
    Calls Try.prog 17 #[.agg #[.int .i64 d.a, .int .i64 d.b, .int .i64 d.c]] w fun e w' => e = .returned (.agg #[.int .i64 r.a, .int .i64 r.b, .int .i64 r.c]) ∧ Below w.heap.size w w' := by
  subst h
  go_enter Try.func17, Try.ntmps17
  go_wp2_with (first | (go_at_call 16; ((with_reducible refine (delay_clip _ _ _ _ rfl _).mono ?_); rintro e w' ⟨rfl, rfl⟩)) | (go_at_call 18; ((with_reducible refine (delay_ticks _ _ rfl _).mono ?_); rintro e w' ⟨rfl, rfl⟩)))
  refine bodyPost_ret (v := .agg #[.int .i64 (fitD d).a, .int .i64 (fitD d).b, .int .i64 (fitD d).c]) ?_ rfl ⟨rfl, ?_⟩
  · simp [results, Try.results17, go_sem, fitD]
  · exact ((Below.refl _ _).alloc (Nat.le_refl _) _).alloc (by simp) _

theorem mx_eq (x y : Int) : (if x < y then y else x) = max x y := by split <;> omega
theorem mn_eq (x y : Int) : (if y < x then y else x) = min x y := by split <;> omega

set_option maxHeartbeats 400000 in
theorem ref25_Fit (d r : D3) (h : fitD d = r) (w : World) :
    Calls Try.prog 9 #[.agg #[.int .i64 d.a, .int .i64 d.b, .int .i64 d.c]] w fun e w' => e = .returned (.agg #[.int .i64 r.a, .int .i64 r.b, .int .i64 r.c]) ∧ Below w.heap.size w w' := by
  obtain ⟨a, b, c⟩ := d
  obtain ⟨ra, rb, rc⟩ := r
  unfold fitD at h
  simp only [D3.mk.injEq] at h ⊢
  obtain ⟨h1, h2, h3⟩ := h
  rw [h1] at h2
  rw [h1, h2] at h3
  have k1 : max 0 (min a 1048576) = ra := h1
  have k2 : max ra (min b 1048576) = rb := h2
  have k3 : max ra (min c rb) = rc := h3
  have K1 := Lib.hid k1
  have K2 := Lib.hid k2
  have K3 := Lib.hid k3
  clear h1 h2 h3 k1 k2 k3
  go_enter Try.func9, Try.ntmps9
  go_wp2
  all_goals
    refine bodyPost_ret (v := .agg #[.int .i64 ra, .int .i64 rb, .int .i64 rc]) ?_ rfl ⟨rfl, ?_⟩
    · have k1 := K1.out
      have k2 := K2.out
      have k3 := K3.out
      simp [results, Try.results9, go_sem]
      omega
    · exact ((Below.refl _ _).alloc (Nat.le_refl _) _).alloc (by simp) _
end Go.Proofs.Ytlockgodmlloeaa
