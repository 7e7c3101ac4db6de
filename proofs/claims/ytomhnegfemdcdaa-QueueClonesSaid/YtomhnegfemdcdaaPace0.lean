/- Package pace and its reference, walked: each function computes the plain Lean function named here. No condition. -/
import Derived.Test.YtomhnegfemdcdaaKit
import Derived.StillTailTactics
namespace Go.Proofs.Ytomhnegfemdcdaa
open Go.RowKit
attribute [local go_sem ↓] Go.wp_at_zero Go.wp_at_succ

structure P4 where
  r : Int
  b : Int
  t : Int
  l : Int
deriving DecidableEq
def fitP (p : P4) : P4 := ⟨clipI p.r 1 65535, clipI p.b 1 1048576, clipI p.t 0 (clipI p.b 1 1048576), clipI p.l 0 1099511627776⟩
def FitP (p : P4) : Prop := 1 ≤ p.r ∧ p.r ≤ 65535 ∧ 1 ≤ p.b ∧ p.b ≤ 1048576 ∧ 0 ≤ p.t ∧ p.t ≤ p.b ∧ 0 ≤ p.l ∧ p.l ≤ 1099511627776
theorem fitP_fit (p : P4) : FitP (fitP p) := by
  unfold FitP fitP clipI; simp only; omega
theorem fitP_id (p : P4) (h : FitP p) : fitP p = p := by
  obtain ⟨r, b, t, l⟩ := p
  unfold FitP at h; simp only at h
  unfold fitP clipI; simp only [P4.mk.injEq]; omega
/-- The tick that counts. -/
def tickP (p : P4) (now : Int) : Int := max (clipI now 0 1099511627776) p.l
def atP (p : P4) (now : Int) : P4 :=
  ⟨(fitP p).r, (fitP p).b, min (fitP p).b ((fitP p).t + min (tickP (fitP p) now - (fitP p).l) 1048576 * (fitP p).r), tickP (fitP p) now⟩
theorem atP_fit (p : P4) (now : Int) : FitP (atP p now) := by
  have h := fitP_fit p
  have hn := clip_bd now 0 1099511627776 (by omega)
  unfold FitP at *
  unfold atP
  obtain ⟨x, hx⟩ : ∃ x, tickP (fitP p) now = x := ⟨_, rfl⟩
  have hx' : max (clipI now 0 1099511627776) (fitP p).l = x := hx
  have : 0 ≤ min (x - (fitP p).l) 1048576 * (fitP p).r := Int.mul_nonneg (by omega) (by omega)
  rw [hx]
  simp only
  omega
def takeP (p : P4) (now n : Int) : P4 × Bool :=
  if (atP p now).t < max 0 n then (atP p now, false) else (⟨(atP p now).r, (atP p now).b, (atP p now).t - max 0 n, (atP p now).l⟩, true)
def changeP (p : P4) (now rate : Int) : P4 := fitP ⟨rate, (atP p now).b, (atP p now).t, (atP p now).l⟩

set_option maxHeartbeats 400000 in
theorem pace_clip (n lo hi r : Int) (h : clipI n lo hi = r) (w : World) :
    Calls Try.prog 33 #[.int .i64 n, .int .i64 lo, .int .i64 hi] w fun e w' => e = .returned (.int .i64 r) ∧ w = w' := by
  subst h
  go_enter Try.func33, Try.ntmps33
  go_wp2
  all_goals
    go_ret
    exact ⟨ret_int (by unfold clipI; omega), rfl⟩

set_option maxHeartbeats 1000000 in
theorem pace_fit (p r : P4) (h : fitP p = r) (w : World) :
    Calls Try.prog 32 #[.agg #[.int .i64 p.r, .int .i64 p.b, .int .i64 p.t, .int .i64 p.l]] w fun e w' => e = .returned (.agg #[.int .i64 r.r, .int .i64 r.b, .int .i64 r.t, .int .i64 r.l]) ∧ Below w.heap.size w w' := by
  subst h
  go_enter Try.func32, Try.ntmps32
  go_wp2_with fail
  go_region_with (go_at_call 33; refine (pace_clip _ _ _ _ rfl _).mono ?_; rintro e w' ⟨rfl, rfl⟩)
  all_goals
    go_wp2_with (go_at_call 33; ((with_reducible refine (pace_clip _ _ _ _ rfl _).mono ?_); rintro e w' ⟨rfl, rfl⟩))
    refine bodyPost_ret (v := .agg #[.int .i64 (fitP p).r, .int .i64 (fitP p).b, .int .i64 (fitP p).t, .int .i64 (fitP p).l]) ?_ rfl ⟨rfl, ?_⟩
    · simp [results, Try.results32, go_sem, fitP]
    · (repeat (first | with_reducible assumption | with_reducible exact Below.refl _ _ | with_reducible refine Below.drew ?_ | with_reducible refine Below.setCell ?_ (by first | exact Nat.le_refl _ | exact Nat.le_add_right _ _ | assumption | omega | (simp; done) | (simp; omega)) _ | with_reducible refine Below.alloc ?_ (by first | exact Nat.le_refl _ | exact Nat.le_add_right _ _ | assumption | omega | (simp; done) | (simp; omega)) _ | refine Below.drew ?_ | refine Below.setCell ?_ (by first | exact Nat.le_refl _ | exact Nat.le_add_right _ _ | assumption | omega | (simp; done) | (simp; omega)) _ | refine Below.alloc ?_ (by first | exact Nat.le_refl _ | exact Nat.le_add_right _ _ | assumption | omega | (simp; done) | (simp; omega)) _))

end Go.Proofs.Ytomhnegfemdcdaa
