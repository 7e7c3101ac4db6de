/- Package life: high, and the reference's Clip and Known, walked. No condition but that the two tables stand. -/
import Derived.Test.YtfoefkoneekolaaDoorLife3
namespace Go.Proofs.YtfoefkoneekolaaDoor
open Go.RowKit BigFrame
attribute [local go_sem ↓] Go.wp_at_zero Go.wp_at_succ

theorem Blk.kept {w w' : World} {g g0 : Nat} {t : TypeId} {cs : Array Value} (h : Blk w g t cs) (hk : ∀ k, k ≠ g0 → w'.heap[k]? = w.heap[k]?) (hg : g ≠ g0) : Blk w' g t cs := (hk g hg).trans h
/-- What a high report makes of a path. -/
def highL (l : L3) (st : Int) : L3 := if worseI l.s = 3 then ⟨3, l.h, 0⟩ else if st - 1 ≤ l.k then ⟨3, l.h, 0⟩ else ⟨worseI l.s, l.h, l.k + 1⟩

theorem high_over (s t n st : Int) (hc : st - 1 ≤ n) : highL ⟨s, t, n⟩ st = ⟨3, t, 0⟩ := by
  unfold highL
  simp only
  by_cases h3 : worseI s = 3
  · rw [if_pos h3]
  · rw [if_neg h3, if_pos hc]
theorem high_0 (t n st : Int) (hc : ¬ st - 1 ≤ n) : highL ⟨0, t, n⟩ st = ⟨0, t, n + 1⟩ := by
  unfold highL; simp only; rw [if_neg (by simp [worseI]), if_neg hc]; simp [worseI]
theorem high_1 (t n st : Int) (hc : ¬ st - 1 ≤ n) : highL ⟨1, t, n⟩ st = ⟨2, t, n + 1⟩ := by
  unfold highL; simp only; rw [if_neg (by simp [worseI]), if_neg hc]; simp [worseI]
theorem high_2 (t n st : Int) (hc : ¬ st - 1 ≤ n) : highL ⟨2, t, n⟩ st = ⟨2, t, n + 1⟩ := by
  unfold highL; simp only; rw [if_neg (by simp [worseI]), if_neg hc]; simp [worseI]
theorem high_3 (t n st : Int) : highL ⟨3, t, n⟩ st = ⟨3, t, 0⟩ := by
  unfold highL; simp only; rw [if_pos (by simp [worseI])]

set_option maxHeartbeats 2000000 in
theorem life_high (l r : L3) (c : C4) (h : highL l c.st = r) (hs : l.s = 0 ∨ l.s = 1 ∨ l.s = 2 ∨ l.s = 3) (hk : 0 ≤ l.k) (s1 : 1 ≤ c.st) (s2 : c.st ≤ 100) (w : World) (hT : Tabs w) :
    Calls Tryd.prog 23 #[.agg #[.int .i64 l.s, .int .i64 l.h, .int .i64 l.k], .agg #[.int .i64 c.t, .int .i64 c.lo, .int .i64 c.hi, .int .i64 c.st]] w fun e w' => e = .returned (.agg #[.int .i64 r.s, .int .i64 r.h, .int .i64 r.k]) ∧ Below w.heap.size w w' := by
  obtain ⟨s, t, n⟩ := l
  obtain ⟨ct, clo, chi, st⟩ := c
  simp only at hs hk s1 s2 h ⊢
  have hT1 := hT.below ((((Below.refl w.heap.size w).alloc (Nat.le_refl _) (.cells #[.int .i64 s, .int .i64 t, .int .i64 n] 37)).alloc (by simp) (.cells #[.int .i64 ct, .int .i64 clo, .int .i64 chi, .int .i64 st] 25)).alloc (by simp; omega) (.cells #[.int .i64 0, .int .i64 0, .int .i64 0] 37)) hT.1
  obtain ⟨z1, z2, t0, t1, t2, t3⟩ := hT1
  clear z1 z2
  have hsz := hT.1
  have d1 : IntKind.i64.wrap (st - 1) = st - 1 := IntWalk.i64_in _ (by omega)
  clear hT
  by_cases hc : st - 1 ≤ n
  · obtain rfl : (⟨3, t, 0⟩ : L3) = r := (high_over _ _ _ _ hc).symm.trans h
    clear h
    go_enter Tryd.func23, Tryd.ntmps23
    rcases hs with rfl | rfl | rfl | rfl
    all_goals
      go_wp2_with fail
      refine bodyPost_ret (v := .agg #[.int .i64 3, .int .i64 t, .int .i64 0]) ?_ rfl ⟨rfl, ?_⟩
      · simp [results, Tryd.results23, go_sem]
      · (repeat (first | with_reducible assumption | with_reducible exact Below.refl _ _ | with_reducible refine Below.drew ?_ | with_reducible refine Below.setCell ?_ (by first | exact Nat.le_refl _ | exact Nat.le_add_right _ _ | assumption | omega | (simp; done) | (simp; omega)) _ | with_reducible refine Below.alloc ?_ (by first | exact Nat.le_refl _ | exact Nat.le_add_right _ _ | assumption | omega | (simp; done) | (simp; omega)) _ | refine Below.drew ?_ | refine Below.setCell ?_ (by first | exact Nat.le_refl _ | exact Nat.le_add_right _ _ | assumption | omega | (simp; done) | (simp; omega)) _ | refine Below.alloc ?_ (by first | exact Nat.le_refl _ | exact Nat.le_add_right _ _ | assumption | omega | (simp; done) | (simp; omega)) _))
  · have d2 : IntKind.i64.wrap (n + 1) = n + 1 := IntWalk.i64_in _ (by omega)
    rcases hs with rfl | rfl | rfl | rfl
    · obtain rfl : (⟨0, t, n + 1⟩ : L3) = r := (high_0 _ _ _ hc).symm.trans h
      clear h
      go_enter Tryd.func23, Tryd.ntmps23
      go_wp2_with fail
      refine bodyPost_ret (v := .agg #[.int .i64 0, .int .i64 t, .int .i64 (n + 1)]) ?_ rfl ⟨rfl, ?_⟩
      · simp [results, Tryd.results23, go_sem]
      · (repeat (first | with_reducible assumption | with_reducible exact Below.refl _ _ | with_reducible refine Below.drew ?_ | with_reducible refine Below.setCell ?_ (by first | exact Nat.le_refl _ | exact Nat.le_add_right _ _ | assumption | omega | (simp; done) | (simp; omega)) _ | with_reducible refine Below.alloc ?_ (by first | exact Nat.le_refl _ | exact Nat.le_add_right _ _ | assumption | omega | (simp; done) | (simp; omega)) _ | refine Below.drew ?_ | refine Below.setCell ?_ (by first | exact Nat.le_refl _ | exact Nat.le_add_right _ _ | assumption | omega | (simp; done) | (simp; omega)) _ | refine Below.alloc ?_ (by first | exact Nat.le_refl _ | exact Nat.le_add_right _ _ | assumption | omega | (simp; done) | (simp; omega)) _))
    · obtain rfl : (⟨2, t, n + 1⟩ : L3) = r := (high_1 _ _ _ hc).symm.trans h
      clear h
      go_enter Tryd.func23, Tryd.ntmps23
      go_wp2_with fail
      refine bodyPost_ret (v := .agg #[.int .i64 2, .int .i64 t, .int .i64 (n + 1)]) ?_ rfl ⟨rfl, ?_⟩
      · simp [results, Tryd.results23, go_sem]
      · (repeat (first | with_reducible assumption | with_reducible exact Below.refl _ _ | with_reducible refine Below.drew ?_ | with_reducible refine Below.setCell ?_ (by first | exact Nat.le_refl _ | exact Nat.le_add_right _ _ | assumption | omega | (simp; done) | (simp; omega)) _ | with_reducible refine Below.alloc ?_ (by first | exact Nat.le_refl _ | exact Nat.le_add_right _ _ | assumption | omega | (simp; done) | (simp; omega)) _ | refine Below.drew ?_ | refine Below.setCell ?_ (by first | exact Nat.le_refl _ | exact Nat.le_add_right _ _ | assumption | omega | (simp; done) | (simp; omega)) _ | refine Below.alloc ?_ (by first | exact Nat.le_refl _ | exact Nat.le_add_right _ _ | assumption | omega | (simp; done) | (simp; omega)) _))
    · obtain rfl : (⟨2, t, n + 1⟩ : L3) = r := (high_2 _ _ _ hc).symm.trans h
      clear h
      go_enter Tryd.func23, Tryd.ntmps23
      go_wp2_with fail
      refine bodyPost_ret (v := .agg #[.int .i64 2, .int .i64 t, .int .i64 (n + 1)]) ?_ rfl ⟨rfl, ?_⟩
      · simp [results, Tryd.results23, go_sem]
      · (repeat (first | with_reducible assumption | with_reducible exact Below.refl _ _ | with_reducible refine Below.drew ?_ | with_reducible refine Below.setCell ?_ (by first | exact Nat.le_refl _ | exact Nat.le_add_right _ _ | assumption | omega | (simp; done) | (simp; omega)) _ | with_reducible refine Below.alloc ?_ (by first | exact Nat.le_refl _ | exact Nat.le_add_right _ _ | assumption | omega | (simp; done) | (simp; omega)) _ | refine Below.drew ?_ | refine Below.setCell ?_ (by first | exact Nat.le_refl _ | exact Nat.le_add_right _ _ | assumption | omega | (simp; done) | (simp; omega)) _ | refine Below.alloc ?_ (by first | exact Nat.le_refl _ | exact Nat.le_add_right _ _ | assumption | omega | (simp; done) | (simp; omega)) _))
    · obtain rfl : (⟨3, t, 0⟩ : L3) = r := (high_3 _ _ _).symm.trans h
      clear h
      go_enter Tryd.func23, Tryd.ntmps23
      go_wp2_with fail
      refine bodyPost_ret (v := .agg #[.int .i64 3, .int .i64 t, .int .i64 0]) ?_ rfl ⟨rfl, ?_⟩
      · simp [results, Tryd.results23, go_sem]
      · (repeat (first | with_reducible assumption | with_reducible exact Below.refl _ _ | with_reducible refine Below.drew ?_ | with_reducible refine Below.setCell ?_ (by first | exact Nat.le_refl _ | exact Nat.le_add_right _ _ | assumption | omega | (simp; done) | (simp; omega)) _ | with_reducible refine Below.alloc ?_ (by first | exact Nat.le_refl _ | exact Nat.le_add_right _ _ | assumption | omega | (simp; done) | (simp; omega)) _ | refine Below.drew ?_ | refine Below.setCell ?_ (by first | exact Nat.le_refl _ | exact Nat.le_add_right _ _ | assumption | omega | (simp; done) | (simp; omega)) _ | refine Below.alloc ?_ (by first | exact Nat.le_refl _ | exact Nat.le_add_right _ _ | assumption | omega | (simp; done) | (simp; omega)) _))
end Go.Proofs.YtfoefkoneekolaaDoor
