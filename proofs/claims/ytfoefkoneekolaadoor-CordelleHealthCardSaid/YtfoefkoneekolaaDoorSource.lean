/- Package source and its reference, walked: each function computes the plain Lean function named here. No condition but the numbers' bounds. -/
import Derived.Test.YtfoefkoneekolaaDoorSerialB
import Derived.Test.YtfoefkoneekolaaDoorRegion
namespace Go.Proofs.YtfoefkoneekolaaDoor
open Go.RowKit
attribute [local go_sem ↓] Go.wp_at_zero Go.wp_at_succ

structure S6 where
  mx : Int
  cy : Int
  ba : Int
  bd : Int
  pr : Int
  rc : Int
deriving DecidableEq
def anewS (s : S6) (n : Int) : S6 := ⟨n, 0, n, 65537, s.pr, 0⟩
def proveS (s : S6) (n : Int) : S6 × Bool :=
  if n = (s.mx + 1) % 65536 then
    if s.pr = 1 then (⟨n, 0, n, 65537, 0, 1⟩, true) else (⟨n, s.cy, s.ba, s.bd, s.pr - 1, s.rc⟩, false)
  else (⟨n, s.cy, s.ba, s.bd, 1, s.rc⟩, false)
def updS (s : S6) (n : Int) : S6 × Bool :=
  if 0 < s.pr then proveS s n
  else if (n - s.mx) % 65536 < 3000 then (⟨n, if n < s.mx then s.cy + 65536 else s.cy, s.ba, s.bd, s.pr, s.rc + 1⟩, true)
  else if (n - s.mx) % 65536 ≤ 65436 then
    if n = s.bd then (⟨n, 0, n, 65537, s.pr, 1⟩, true) else (⟨s.mx, s.cy, s.ba, (n + 1) % 65536, s.pr, s.rc⟩, false)
  else (⟨s.mx, s.cy, s.ba, s.bd, s.pr, s.rc + 1⟩, true)
def InS (k : Int) (s : S6) : Prop := 0 ≤ s.mx ∧ s.mx ≤ 65535 ∧ 0 ≤ s.cy ∧ s.cy ≤ 65536 * k ∧ 0 ≤ s.ba ∧ s.ba ≤ 65535 ∧ 0 ≤ s.bd ∧ s.bd ≤ 65537 ∧ 0 ≤ s.pr ∧ s.pr ≤ 2 ∧ 0 ≤ s.rc ∧ s.rc ≤ k
theorem updS_in (k : Int) (s r : S6) (ok : Bool) (n : Int) (hk : 0 ≤ k) (h : InS k s) (n0 : 0 ≤ n) (n1 : n ≤ 65535) (hu : updS s n = (r, ok)) : InS (k + 1) r := by
  unfold InS at h
  unfold updS proveS at hu
  split at hu
  · split at hu
    · split at hu
      · injection hu with h1 _; subst h1; unfold InS; simp only; omega
      · injection hu with h1 _; subst h1; unfold InS; simp only; omega
    · injection hu with h1 _; subst h1; unfold InS; simp only; omega
  · split at hu
    · injection hu with h1 _; subst h1; unfold InS; simp only; split <;> omega
    · split at hu
      · split at hu
        · injection hu with h1 _; subst h1; unfold InS; simp only; omega
        · injection hu with h1 _; subst h1; unfold InS; simp only; omega
      · injection hu with h1 _; subst h1; unfold InS; simp only; omega
def newS (f : Int) : S6 := ⟨(f + 65535) % 65536, 0, f, 65537, 2, 0⟩
theorem newS_in (f : Int) (f0 : 0 ≤ f) (f1 : f ≤ 65535) : InS 0 (newS f) := by unfold InS newS; simp only; omega
def highS (s : S6) : Int := s.cy + s.mx
def expS (s : S6) : Int := if 0 < s.pr then 0 else s.cy + s.mx - s.ba + 1

set_option maxHeartbeats 1000000 in
theorem source_New (f : Int) (f0 : 0 ≤ f) (f1 : f ≤ 65535) (r : S6) (h : newS f = r) (w : World) :
    Calls Tryd.prog 4 #[.int .u16 f] w fun e w' => e = .returned (.agg #[.int .u16 r.mx, .int .i64 r.cy, .int .i64 r.ba, .int .i64 r.bd, .int .i64 r.pr, .int .i64 r.rc]) ∧ Below w.heap.size w w' := by
  subst h
  have s1 : IntKind.u16.wrap (f - 1) = (f + 65535) % 65536 := by simp [IntKind.wrap, IntKind.bits, IntKind.signed]; omega
  obtain ⟨x, hx⟩ : ∃ x, (f + 65535) % 65536 = x := ⟨_, rfl⟩
  unfold newS
  rw [hx] at s1 ⊢
  clear hx
  go_enter Tryd.func4, Tryd.ntmps4
  go_wp2
  refine bodyPost_ret (v := .agg #[.int .u16 x, .int .i64 0, .int .i64 f, .int .i64 65537, .int .i64 2, .int .i64 0]) ?_ rfl ⟨rfl, ?_⟩
  · simp [results, Tryd.results4, go_sem]
    try omega
  · (repeat (first | with_reducible assumption | with_reducible exact Below.refl _ _ | with_reducible refine Below.drew ?_ | with_reducible refine Below.setCell ?_ (by first | exact Nat.le_refl _ | exact Nat.le_add_right _ _ | assumption | omega | (simp; done) | (simp; omega)) _ | with_reducible refine Below.alloc ?_ (by first | exact Nat.le_refl _ | exact Nat.le_add_right _ _ | assumption | omega | (simp; done) | (simp; omega)) _ | refine Below.drew ?_ | refine Below.setCell ?_ (by first | exact Nat.le_refl _ | exact Nat.le_add_right _ _ | assumption | omega | (simp; done) | (simp; omega)) _ | refine Below.alloc ?_ (by first | exact Nat.le_refl _ | exact Nat.le_add_right _ _ | assumption | omega | (simp; done) | (simp; omega)) _))

set_option maxHeartbeats 1000000 in
theorem source_anew (s r : S6) (n : Int) (n0 : 0 ≤ n) (n1 : n ≤ 65535) (h : anewS s n = r) (w : World) :
    Calls Tryd.prog 19 #[.agg #[.int .u16 s.mx, .int .i64 s.cy, .int .i64 s.ba, .int .i64 s.bd, .int .i64 s.pr, .int .i64 s.rc], .int .u16 n] w fun e w' => e = .returned (.agg #[.int .u16 r.mx, .int .i64 r.cy, .int .i64 r.ba, .int .i64 r.bd, .int .i64 r.pr, .int .i64 r.rc]) ∧ Below w.heap.size w w' := by
  subst h
  go_enter Tryd.func19, Tryd.ntmps19
  go_wp2
  refine bodyPost_ret (v := .agg #[.int .u16 n, .int .i64 0, .int .i64 n, .int .i64 65537, .int .i64 s.pr, .int .i64 0]) ?_ rfl ⟨rfl, ?_⟩
  · simp [results, Tryd.results19, go_sem]
  · (repeat (first | with_reducible assumption | with_reducible exact Below.refl _ _ | with_reducible refine Below.drew ?_ | with_reducible refine Below.setCell ?_ (by first | exact Nat.le_refl _ | exact Nat.le_add_right _ _ | assumption | omega | (simp; done) | (simp; omega)) _ | with_reducible refine Below.alloc ?_ (by first | exact Nat.le_refl _ | exact Nat.le_add_right _ _ | assumption | omega | (simp; done) | (simp; omega)) _ | refine Below.drew ?_ | refine Below.setCell ?_ (by first | exact Nat.le_refl _ | exact Nat.le_add_right _ _ | assumption | omega | (simp; done) | (simp; omega)) _ | refine Below.alloc ?_ (by first | exact Nat.le_refl _ | exact Nat.le_add_right _ _ | assumption | omega | (simp; done) | (simp; omega)) _))
end Go.Proofs.YtfoefkoneekolaaDoor
