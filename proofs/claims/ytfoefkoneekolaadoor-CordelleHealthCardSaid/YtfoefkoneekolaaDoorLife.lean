/- Package life and its reference: the plain functions that they compute, and the small functions walked. No condition. -/
import Derived.Test.YtfoefkoneekolaaDoorKit
namespace Go.Proofs.YtfoefkoneekolaaDoor
open Go.RowKit
attribute [local go_sem ↓] Go.wp_at_zero Go.wp_at_succ

/-- How a path is: its state, when it was heard, its strikes. -/
structure L3 where
  s : Int
  h : Int
  k : Int
deriving DecidableEq
/-- What counts: the timeout, the low and the high fraction, the strikes. -/
structure C4 where
  t : Int
  lo : Int
  hi : Int
  st : Int
deriving DecidableEq
def tickI (n : Int) : Int := clipI n 0 1099511627776
def clipC (c : C4) : C4 := ⟨clipI c.t 1 1048576, clipI c.lo 0 255, clipI c.hi (clipI c.lo 0 255) 255, clipI c.st 1 100⟩
def stateI (s : Int) : Int := if s < 0 then 3 else if 3 < s then 3 else s
def knownL (l : L3) : L3 := ⟨stateI l.s, tickI l.h, max 0 l.k⟩
/-- A report, of what is known. -/
def repL (x : L3) (k : C4) (f n : Int) : L3 :=
  if f ≤ k.lo then ⟨if x.s = 3 then 0 else 1, n, 0⟩
  else if k.hi < f then
    if x.s = 3 then ⟨3, n, 0⟩
    else if k.st - 1 ≤ x.k then ⟨3, n, 0⟩
    else ⟨if x.s = 1 then 2 else x.s, n, x.k + 1⟩
  else ⟨x.s, n, x.k⟩
def reportL (l : L3) (c : C4) (f now : Int) : L3 := repL (knownL l) (clipC c) f (tickI now)
/-- Is it too late? -/
def lateL (x : L3) (k : C4) (n : Int) : Bool := decide (x.s ≠ 3) && decide (k.t < n - x.h)
def tickL (l : L3) (c : C4) (now : Int) : L3 := if lateL (knownL l) (clipC c) (tickI now) = true then ⟨3, (knownL l).h, 0⟩ else knownL l
def weightL (s r : Int) : Int := if s = 0 then max 1 (r / 4) else if s = 1 then r else if s = 2 then max 1 (r / 2) else 0

theorem tickI_bd (n : Int) : 0 ≤ tickI n ∧ tickI n ≤ 1099511627776 := clip_bd _ _ _ (by omega)
theorem stateI_bd (s : Int) : stateI s = 0 ∨ stateI s = 1 ∨ stateI s = 2 ∨ stateI s = 3 := by unfold stateI; split <;> (try split) <;> omega
/-- What is known counts. -/
def KnownL (x : L3) : Prop := (x.s = 0 ∨ x.s = 1 ∨ x.s = 2 ∨ x.s = 3) ∧ 0 ≤ x.h ∧ x.h ≤ 1099511627776 ∧ 0 ≤ x.k
theorem knownL_known (l : L3) : KnownL (knownL l) := ⟨stateI_bd _, (tickI_bd _).1, (tickI_bd _).2, by show 0 ≤ max 0 l.k; omega⟩
theorem knownL_id (x : L3) (h : KnownL x) : knownL x = x := by
  obtain ⟨s, hh, k⟩ := x
  unfold KnownL at h; simp only at h
  unfold knownL stateI tickI clipI; simp only [L3.mk.injEq]
  refine ⟨?_, by omega, by omega⟩
  split
  · omega
  · split <;> omega
def CountC (k : C4) : Prop := 1 ≤ k.t ∧ k.t ≤ 1048576 ∧ 0 ≤ k.lo ∧ k.lo ≤ k.hi ∧ k.hi ≤ 255 ∧ 1 ≤ k.st ∧ k.st ≤ 100
theorem clipC_count (c : C4) : CountC (clipC c) := by
  unfold CountC clipC clipI; simp only; omega
theorem clipC_id (c : C4) (h : CountC c) : clipC c = c := by
  obtain ⟨a, b, d, e⟩ := c
  unfold CountC at h; simp only at h
  unfold clipC clipI; simp only [C4.mk.injEq]; omega

set_option maxHeartbeats 400000 in
theorem life_clip (n lo hi r : Int) (h : clipI n lo hi = r) (w : World) :
    Calls Tryd.prog 27 #[.int .i64 n, .int .i64 lo, .int .i64 hi] w fun e w' => e = .returned (.int .i64 r) ∧ w = w' := by
  subst h
  go_enter Tryd.func27, Tryd.ntmps27
  go_wp2
  all_goals
    go_ret
    exact ⟨ret_int (by unfold clipI; omega), rfl⟩

set_option maxHeartbeats 400000 in
theorem life_tick (n r : Int) (h : tickI n = r) (w : World) :
    Calls Tryd.prog 17 #[.int .i64 n] w fun e w' => e = .returned (.int .i64 r) ∧ w = w' := by
  have HR := Lib.hid (show clipI n 0 1099511627776 = r from h)
  clear h
  go_enter Tryd.func17, Tryd.ntmps17
  go_wp2_with (go_at_call 27; ((with_reducible refine (life_clip _ _ _ r HR.out _).mono ?_); rintro e w' ⟨rfl, rfl⟩))
  go_ret
  exact ⟨rfl, rfl⟩

end Go.Proofs.YtfoefkoneekolaaDoor
