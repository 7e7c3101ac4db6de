/- The reference's Update, walked: it computes the plain Lean function named here. No condition but the numbers' bounds. -/
import Derived.Test.YthngobikokhdlaaSource3
namespace Go.Proofs.Ythngobikokhdlaa
open Go.RowKit
attribute [local go_sem ↓] Go.wp_at_zero Go.wp_at_succ

set_option maxHeartbeats 8000000 in
theorem ref13_Update (s r : S6) (n k : Int) (ok : Bool) (hs : InS k s) (hk : k ≤ 1000000) (n0 : 0 ≤ n) (n1 : n ≤ 65535) (h : updS s n = (r, ok)) (w : World) :
    Calls Try.prog 24 #[.agg #[.int .i64 s.mx, .int .i64 s.cy, .int .i64 s.ba, .int .i64 s.bd, .int .i64 s.pr, .int .i64 s.rc], .int .i64 n] w fun e w' => e = .returned (.tuple #[.agg #[.int .i64 r.mx, .int .i64 r.cy, .int .i64 r.ba, .int .i64 r.bd, .int .i64 r.pr, .int .i64 r.rc], .bool ok]) ∧ Below w.heap.size w w' := by
  obtain ⟨m0, m1, c0, c1, a0, a1, d0, d1, p0, p1, q0, q1⟩ := hs
  obtain ⟨mx, cy, ba, bd, pr, rc⟩ := s
  simp only at *
  unfold updS proveS at h
  simp only at h
  by_cases hp : 0 < pr
  · rw [if_pos hp] at h
    obtain ⟨x, hx⟩ : ∃ x, (mx + 1) % 65536 = x := ⟨_, rfl⟩
    rw [hx] at h
    by_cases hn : n = x
    · rw [if_pos hn] at h
      have hne : (n == x) = true := by rw [hn]; simp
      clear hn
      by_cases hp1 : pr = 1
      · rw [if_pos hp1] at h
        injection h with h1 h2
        subst h1 h2 hp1
        go_enter Try.func24, Try.ntmps24
        go_wp2
        refine bodyPost_ret (v := .tuple #[.agg #[.int .i64 n, .int .i64 0, .int .i64 n, .int .i64 65537, .int .i64 0, .int .i64 1], .bool true]) ?_ rfl ⟨rfl, ?_⟩
        · simp [results, Try.results24, go_sem]
        · (repeat (first | with_reducible assumption | with_reducible exact Below.refl _ _ | with_reducible refine Below.drew ?_ | with_reducible refine Below.setCell ?_ (by first | exact Nat.le_refl _ | exact Nat.le_add_right _ _ | assumption | omega | (simp; done) | (simp; omega)) _ | with_reducible refine Below.alloc ?_ (by first | exact Nat.le_refl _ | exact Nat.le_add_right _ _ | assumption | omega | (simp; done) | (simp; omega)) _ | refine Below.drew ?_ | refine Below.setCell ?_ (by first | exact Nat.le_refl _ | exact Nat.le_add_right _ _ | assumption | omega | (simp; done) | (simp; omega)) _ | refine Below.alloc ?_ (by first | exact Nat.le_refl _ | exact Nat.le_add_right _ _ | assumption | omega | (simp; done) | (simp; omega)) _))
      · rw [if_neg hp1] at h
        injection h with h1 h2
        subst h1 h2
        have hp2 : pr = 2 := by omega
        subst hp2
        clear hp1
        go_enter Try.func24, Try.ntmps24
        go_wp2
        refine bodyPost_ret (v := .tuple #[.agg #[.int .i64 n, .int .i64 cy, .int .i64 ba, .int .i64 bd, .int .i64 1, .int .i64 rc], .bool false]) ?_ rfl ⟨rfl, ?_⟩
        · simp [results, Try.results24, go_sem]
        · (repeat (first | with_reducible assumption | with_reducible exact Below.refl _ _ | with_reducible refine Below.drew ?_ | with_reducible refine Below.setCell ?_ (by first | exact Nat.le_refl _ | exact Nat.le_add_right _ _ | assumption | omega | (simp; done) | (simp; omega)) _ | with_reducible refine Below.alloc ?_ (by first | exact Nat.le_refl _ | exact Nat.le_add_right _ _ | assumption | omega | (simp; done) | (simp; omega)) _ | refine Below.drew ?_ | refine Below.setCell ?_ (by first | exact Nat.le_refl _ | exact Nat.le_add_right _ _ | assumption | omega | (simp; done) | (simp; omega)) _ | refine Below.alloc ?_ (by first | exact Nat.le_refl _ | exact Nat.le_add_right _ _ | assumption | omega | (simp; done) | (simp; omega)) _))
    · rw [if_neg hn] at h
      injection h with h1 h2
      subst h1 h2
      have hne : (n == x) = false := by rw [beq_eq_false_iff_ne]; exact hn
      clear hn
      go_enter Try.func24, Try.ntmps24
      go_wp2
      refine bodyPost_ret (v := .tuple #[.agg #[.int .i64 n, .int .i64 cy, .int .i64 ba, .int .i64 bd, .int .i64 1, .int .i64 rc], .bool false]) ?_ rfl ⟨rfl, ?_⟩
      · simp [results, Try.results24, go_sem]
      · (repeat (first | with_reducible assumption | with_reducible exact Below.refl _ _ | with_reducible refine Below.drew ?_ | with_reducible refine Below.setCell ?_ (by first | exact Nat.le_refl _ | exact Nat.le_add_right _ _ | assumption | omega | (simp; done) | (simp; omega)) _ | with_reducible refine Below.alloc ?_ (by first | exact Nat.le_refl _ | exact Nat.le_add_right _ _ | assumption | omega | (simp; done) | (simp; omega)) _ | refine Below.drew ?_ | refine Below.setCell ?_ (by first | exact Nat.le_refl _ | exact Nat.le_add_right _ _ | assumption | omega | (simp; done) | (simp; omega)) _ | refine Below.alloc ?_ (by first | exact Nat.le_refl _ | exact Nat.le_add_right _ _ | assumption | omega | (simp; done) | (simp; omega)) _))
  · rw [if_neg hp] at h
    have hp0 : pr = 0 := by omega
    subst hp0
    clear hp p0 p1
    obtain ⟨far, hfar⟩ : ∃ far, (n - mx) % 65536 = far := ⟨_, rfl⟩
    have hw : (n - mx + 65536) % 65536 = far := by omega
    have g0 : 0 ≤ far := by omega
    have g1 : far ≤ 65535 := by omega
    rw [hfar] at h
    clear hfar
    by_cases h1 : far < 3000
    · rw [if_pos h1] at h
      injection h with h2 h3
      subst h2 h3
      by_cases h4 : n < mx
      · simp only [if_pos h4]
        go_enter Try.func24, Try.ntmps24
        go_wp2
        refine bodyPost_ret (v := .tuple #[.agg #[.int .i64 n, .int .i64 (cy + 65536), .int .i64 ba, .int .i64 bd, .int .i64 0, .int .i64 (rc + 1)], .bool true]) ?_ rfl ⟨rfl, ?_⟩
        · simp [results, Try.results24, go_sem]
        · (repeat (first | with_reducible assumption | with_reducible exact Below.refl _ _ | with_reducible refine Below.drew ?_ | with_reducible refine Below.setCell ?_ (by first | exact Nat.le_refl _ | exact Nat.le_add_right _ _ | assumption | omega | (simp; done) | (simp; omega)) _ | with_reducible refine Below.alloc ?_ (by first | exact Nat.le_refl _ | exact Nat.le_add_right _ _ | assumption | omega | (simp; done) | (simp; omega)) _ | refine Below.drew ?_ | refine Below.setCell ?_ (by first | exact Nat.le_refl _ | exact Nat.le_add_right _ _ | assumption | omega | (simp; done) | (simp; omega)) _ | refine Below.alloc ?_ (by first | exact Nat.le_refl _ | exact Nat.le_add_right _ _ | assumption | omega | (simp; done) | (simp; omega)) _))
      · simp only [if_neg h4]
        go_enter Try.func24, Try.ntmps24
        go_wp2
        refine bodyPost_ret (v := .tuple #[.agg #[.int .i64 n, .int .i64 cy, .int .i64 ba, .int .i64 bd, .int .i64 0, .int .i64 (rc + 1)], .bool true]) ?_ rfl ⟨rfl, ?_⟩
        · simp [results, Try.results24, go_sem]
        · (repeat (first | with_reducible assumption | with_reducible exact Below.refl _ _ | with_reducible refine Below.drew ?_ | with_reducible refine Below.setCell ?_ (by first | exact Nat.le_refl _ | exact Nat.le_add_right _ _ | assumption | omega | (simp; done) | (simp; omega)) _ | with_reducible refine Below.alloc ?_ (by first | exact Nat.le_refl _ | exact Nat.le_add_right _ _ | assumption | omega | (simp; done) | (simp; omega)) _ | refine Below.drew ?_ | refine Below.setCell ?_ (by first | exact Nat.le_refl _ | exact Nat.le_add_right _ _ | assumption | omega | (simp; done) | (simp; omega)) _ | refine Below.alloc ?_ (by first | exact Nat.le_refl _ | exact Nat.le_add_right _ _ | assumption | omega | (simp; done) | (simp; omega)) _))
    · rw [if_neg h1] at h
      by_cases h2 : far ≤ 65436
      · rw [if_pos h2] at h
        by_cases h3 : n = bd
        · rw [if_pos h3] at h
          injection h with h4 h5
          subst h4 h5
          have hne : (n == bd) = true := by rw [h3]; simp
          clear h3
          go_enter Try.func24, Try.ntmps24
          go_wp2
          refine bodyPost_ret (v := .tuple #[.agg #[.int .i64 n, .int .i64 0, .int .i64 n, .int .i64 65537, .int .i64 0, .int .i64 1], .bool true]) ?_ rfl ⟨rfl, ?_⟩
          · simp [results, Try.results24, go_sem]
          · (repeat (first | with_reducible assumption | with_reducible exact Below.refl _ _ | with_reducible refine Below.drew ?_ | with_reducible refine Below.setCell ?_ (by first | exact Nat.le_refl _ | exact Nat.le_add_right _ _ | assumption | omega | (simp; done) | (simp; omega)) _ | with_reducible refine Below.alloc ?_ (by first | exact Nat.le_refl _ | exact Nat.le_add_right _ _ | assumption | omega | (simp; done) | (simp; omega)) _ | refine Below.drew ?_ | refine Below.setCell ?_ (by first | exact Nat.le_refl _ | exact Nat.le_add_right _ _ | assumption | omega | (simp; done) | (simp; omega)) _ | refine Below.alloc ?_ (by first | exact Nat.le_refl _ | exact Nat.le_add_right _ _ | assumption | omega | (simp; done) | (simp; omega)) _))
        · rw [if_neg h3] at h
          injection h with h4 h5
          subst h4 h5
          have hne : (n == bd) = false := by rw [beq_eq_false_iff_ne]; exact h3
          obtain ⟨x, hx⟩ : ∃ x, (n + 1) % 65536 = x := ⟨_, rfl⟩
          simp only [hx]
          clear h3
          go_enter Try.func24, Try.ntmps24
          go_wp2
          refine bodyPost_ret (v := .tuple #[.agg #[.int .i64 mx, .int .i64 cy, .int .i64 ba, .int .i64 x, .int .i64 0, .int .i64 rc], .bool false]) ?_ rfl ⟨rfl, ?_⟩
          · simp [results, Try.results24, go_sem]
          · (repeat (first | with_reducible assumption | with_reducible exact Below.refl _ _ | with_reducible refine Below.drew ?_ | with_reducible refine Below.setCell ?_ (by first | exact Nat.le_refl _ | exact Nat.le_add_right _ _ | assumption | omega | (simp; done) | (simp; omega)) _ | with_reducible refine Below.alloc ?_ (by first | exact Nat.le_refl _ | exact Nat.le_add_right _ _ | assumption | omega | (simp; done) | (simp; omega)) _ | refine Below.drew ?_ | refine Below.setCell ?_ (by first | exact Nat.le_refl _ | exact Nat.le_add_right _ _ | assumption | omega | (simp; done) | (simp; omega)) _ | refine Below.alloc ?_ (by first | exact Nat.le_refl _ | exact Nat.le_add_right _ _ | assumption | omega | (simp; done) | (simp; omega)) _))
      · rw [if_neg h2] at h
        injection h with h4 h5
        subst h4 h5
        go_enter Try.func24, Try.ntmps24
        go_wp2
        refine bodyPost_ret (v := .tuple #[.agg #[.int .i64 mx, .int .i64 cy, .int .i64 ba, .int .i64 bd, .int .i64 0, .int .i64 (rc + 1)], .bool true]) ?_ rfl ⟨rfl, ?_⟩
        · simp [results, Try.results24, go_sem]
        · (repeat (first | with_reducible assumption | with_reducible exact Below.refl _ _ | with_reducible refine Below.drew ?_ | with_reducible refine Below.setCell ?_ (by first | exact Nat.le_refl _ | exact Nat.le_add_right _ _ | assumption | omega | (simp; done) | (simp; omega)) _ | with_reducible refine Below.alloc ?_ (by first | exact Nat.le_refl _ | exact Nat.le_add_right _ _ | assumption | omega | (simp; done) | (simp; omega)) _ | refine Below.drew ?_ | refine Below.setCell ?_ (by first | exact Nat.le_refl _ | exact Nat.le_add_right _ _ | assumption | omega | (simp; done) | (simp; omega)) _ | refine Below.alloc ?_ (by first | exact Nat.le_refl _ | exact Nat.le_add_right _ _ | assumption | omega | (simp; done) | (simp; omega)) _))
end Go.Proofs.Ythngobikokhdlaa
