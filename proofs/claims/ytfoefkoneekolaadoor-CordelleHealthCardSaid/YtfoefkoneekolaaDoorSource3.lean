/- Package source's Update and its reference's, walked: each computes the plain Lean function named here. No condition but the numbers' bounds. -/
import Derived.Test.YtfoefkoneekolaaDoorSource2
namespace Go.Proofs.YtfoefkoneekolaaDoor
open Go.RowKit
attribute [local go_sem ↓] Go.wp_at_zero Go.wp_at_succ

set_option maxHeartbeats 8000000 in
theorem source_Update (s r : S6) (n k : Int) (ok : Bool) (hs : InS k s) (hk : k ≤ 1000000) (n0 : 0 ≤ n) (n1 : n ≤ 65535) (h : updS s n = (r, ok)) (w : World) :
    Calls Tryd.prog 10 #[.agg #[.int .u16 s.mx, .int .i64 s.cy, .int .i64 s.ba, .int .i64 s.bd, .int .i64 s.pr, .int .i64 s.rc], .int .u16 n] w fun e w' => e = .returned (.tuple #[.agg #[.int .u16 r.mx, .int .i64 r.cy, .int .i64 r.ba, .int .i64 r.bd, .int .i64 r.pr, .int .i64 r.rc], .bool ok]) ∧ Below w.heap.size w w' := by
  obtain ⟨m0, m1, c0, c1, a0, a1, d0, d1, p0, p1, q0, q1⟩ := hs
  obtain ⟨mx, cy, ba, bd, pr, rc⟩ := s
  simp only at *
  unfold updS at h
  simp only at h
  by_cases hp : 0 < pr
  · rw [if_pos hp] at h
    have HP := Lib.hid (fun W => source_prove ⟨mx, cy, ba, bd, pr, rc⟩ r n ok m0 m1 n0 n1 (by show 1 ≤ pr; omega) p1 h W)
    clear h
    go_enter Tryd.func10, Tryd.ntmps10
    go_wp2_with fail
    refine (HP.out _).mono ?_
    rintro e w1 ⟨rfl, hb⟩
    have k2 := (Blk.new1 w (.cells #[.int .u16 mx, .int .i64 cy, .int .i64 ba, .int .i64 bd, .int .i64 pr, .int .i64 rc] 27) 27 #[.int .u16 0, .int .i64 0, .int .i64 0, .int .i64 0, .int .i64 0, .int .i64 0]).below hb (by simp)
    have B1 : Below w.heap.size w w1 := (((Below.refl _ w).alloc (Nat.le_refl _) _).alloc (by simp) _).trans (hb.mono (by simp; omega))
    clear hb
    obtain ⟨w2, e2, k2', B2, _⟩ := six_set k2 (.int .u16 r.mx) (.int .i64 r.cy) (.int .i64 r.ba) (.int .i64 r.bd) (.int .i64 r.pr) (.int .i64 r.rc) w.heap.size (Nat.le_add_right _ _)
    have B3 := B1.trans B2
    have c2 := k2.cell
    have f2 := k2.frozen
    have c3 := k2'.cell
    simp at c2 c3
    go_wp2
    try rw [e2]
    refine bodyPost_ret (v := .tuple #[.agg #[.int .u16 r.mx, .int .i64 r.cy, .int .i64 r.ba, .int .i64 r.bd, .int .i64 r.pr, .int .i64 r.rc], .bool ok]) ?_ rfl ⟨rfl, B3⟩
    simp [results, Tryd.results10, go_sem, c3]
  · rw [if_neg hp] at h
    have hp0 : pr = 0 := by omega
    subst hp0
    clear hp p0 p1
    obtain ⟨far, hfar⟩ : ∃ far, (n - mx) % 65536 = far := ⟨_, rfl⟩
    have hw : IntKind.u16.wrap (n - mx) = far := by rw [← hfar]; simp [IntKind.wrap, IntKind.bits, IntKind.signed]
    have g0 : 0 ≤ far := by omega
    have g1 : far ≤ 65535 := by omega
    rw [hfar] at h
    clear hfar
    by_cases h1 : far < 3000
    · rw [if_pos h1] at h
      injection h with h2 h3
      subst h2 h3
      by_cases h4 : n < mx
      · simp only [if_pos h4]
        go_enter Tryd.func10, Tryd.ntmps10
        go_wp2
        refine bodyPost_ret (v := .tuple #[.agg #[.int .u16 n, .int .i64 (cy + 65536), .int .i64 ba, .int .i64 bd, .int .i64 0, .int .i64 (rc + 1)], .bool true]) ?_ rfl ⟨rfl, ?_⟩
        · simp [results, Tryd.results10, go_sem]
        · (repeat (first | with_reducible assumption | with_reducible exact Below.refl _ _ | with_reducible refine Below.drew ?_ | with_reducible refine Below.setCell ?_ (by first | exact Nat.le_refl _ | exact Nat.le_add_right _ _ | assumption | omega | (simp; done) | (simp; omega)) _ | with_reducible refine Below.alloc ?_ (by first | exact Nat.le_refl _ | exact Nat.le_add_right _ _ | assumption | omega | (simp; done) | (simp; omega)) _ | refine Below.drew ?_ | refine Below.setCell ?_ (by first | exact Nat.le_refl _ | exact Nat.le_add_right _ _ | assumption | omega | (simp; done) | (simp; omega)) _ | refine Below.alloc ?_ (by first | exact Nat.le_refl _ | exact Nat.le_add_right _ _ | assumption | omega | (simp; done) | (simp; omega)) _))
      · simp only [if_neg h4]
        go_enter Tryd.func10, Tryd.ntmps10
        go_wp2
        refine bodyPost_ret (v := .tuple #[.agg #[.int .u16 n, .int .i64 cy, .int .i64 ba, .int .i64 bd, .int .i64 0, .int .i64 (rc + 1)], .bool true]) ?_ rfl ⟨rfl, ?_⟩
        · simp [results, Tryd.results10, go_sem]
        · (repeat (first | with_reducible assumption | with_reducible exact Below.refl _ _ | with_reducible refine Below.drew ?_ | with_reducible refine Below.setCell ?_ (by first | exact Nat.le_refl _ | exact Nat.le_add_right _ _ | assumption | omega | (simp; done) | (simp; omega)) _ | with_reducible refine Below.alloc ?_ (by first | exact Nat.le_refl _ | exact Nat.le_add_right _ _ | assumption | omega | (simp; done) | (simp; omega)) _ | refine Below.drew ?_ | refine Below.setCell ?_ (by first | exact Nat.le_refl _ | exact Nat.le_add_right _ _ | assumption | omega | (simp; done) | (simp; omega)) _ | refine Below.alloc ?_ (by first | exact Nat.le_refl _ | exact Nat.le_add_right _ _ | assumption | omega | (simp; done) | (simp; omega)) _))
    · rw [if_neg h1] at h
      by_cases h2 : far ≤ 65436
      · rw [if_pos h2] at h
        by_cases h3 : n = bd
        · rw [if_pos h3] at h
          injection h with h4 h5
          subst h4 h5
          have hne : (n != bd) = false := by rw [h3]; simp
          clear h3
          have HA := Lib.hid (fun W => source_anew ⟨mx, cy, ba, bd, 0, rc⟩ ⟨n, 0, n, 65537, 0, 0⟩ n n0 n1 rfl W)
          go_enter Tryd.func10, Tryd.ntmps10
          go_wp2_with fail
          refine (HA.out _).mono ?_
          rintro e w1 ⟨rfl, hb⟩
          have k1 := ((Blk.new w 27 #[.int .u16 mx, .int .i64 cy, .int .i64 ba, .int .i64 bd, .int .i64 0, .int .i64 rc]).alloc (.cells #[.int .u16 0, .int .i64 0, .int .i64 0, .int .i64 0, .int .i64 0, .int .i64 0] 27)).below hb (by simp; omega)
          have k2 := (Blk.new1 w (.cells #[.int .u16 mx, .int .i64 cy, .int .i64 ba, .int .i64 bd, .int .i64 0, .int .i64 rc] 27) 27 #[.int .u16 0, .int .i64 0, .int .i64 0, .int .i64 0, .int .i64 0, .int .i64 0]).below hb (by simp)
          have B1 : Below w.heap.size w w1 := (((Below.refl _ w).alloc (Nat.le_refl _) _).alloc (by simp) _).trans (hb.mono (by simp; omega))
          clear hb
          obtain ⟨w2, e2, k1', B2, hk⟩ := six_set k1 (.int .u16 n) (.int .i64 0) (.int .i64 n) (.int .i64 65537) (.int .i64 0) (.int .i64 0) w.heap.size (Nat.le_refl _)
          have k2' : Blk w2 (w.heap.size + 1) _ _ := (hk (w.heap.size + 1) (by omega)).trans k2
          have B3 := B1.trans B2
          have c0 := k1.cell
          have f0 := k1.frozen
          simp at c0
          go_upto_region 13 with fail
          try rw [e2]
          clear e2 c0 f0 k1 k2 B2 hk B1
          have c0 := k1'.cell
          have f0 := k1'.frozen
          have c1 := k2'.cell
          have f1 := k2'.frozen
          have l1 := k2'.lt
          simp at c0 c1
          go_wp2
          refine bodyPost_ret (v := .tuple #[.agg #[.int .u16 n, .int .i64 0, .int .i64 n, .int .i64 65537, .int .i64 0, .int .i64 1], .bool true]) ?_ rfl ⟨rfl, ?_⟩
          · simp [results, Tryd.results10, go_sem, c0, c1]
          · (repeat (first | with_reducible assumption | with_reducible exact Below.refl _ _ | with_reducible refine Below.drew ?_ | with_reducible refine Below.setCell ?_ (by first | exact Nat.le_refl _ | exact Nat.le_add_right _ _ | assumption | omega | (simp; done) | (simp; omega)) _ | with_reducible refine Below.alloc ?_ (by first | exact Nat.le_refl _ | exact Nat.le_add_right _ _ | assumption | omega | (simp; done) | (simp; omega)) _ | refine Below.drew ?_ | refine Below.setCell ?_ (by first | exact Nat.le_refl _ | exact Nat.le_add_right _ _ | assumption | omega | (simp; done) | (simp; omega)) _ | refine Below.alloc ?_ (by first | exact Nat.le_refl _ | exact Nat.le_add_right _ _ | assumption | omega | (simp; done) | (simp; omega)) _))
        · rw [if_neg h3] at h
          injection h with h4 h5
          subst h4 h5
          have hne : (n != bd) = true := by rw [bne_iff_ne]; exact h3
          obtain ⟨x, hx⟩ : ∃ x, (n + 1) % 65536 = x := ⟨_, rfl⟩
          have hw2 : IntKind.u16.wrap (n + 1) = x := by rw [← hx]; simp [IntKind.wrap, IntKind.bits, IntKind.signed]
          have x0 : 0 ≤ x := by omega
          have x1 : x ≤ 65535 := by omega
          simp only [hx]
          clear h3 hx
          go_enter Tryd.func10, Tryd.ntmps10
          go_wp2
          refine bodyPost_ret (v := .tuple #[.agg #[.int .u16 mx, .int .i64 cy, .int .i64 ba, .int .i64 x, .int .i64 0, .int .i64 rc], .bool false]) ?_ rfl ⟨rfl, ?_⟩
          · simp [results, Tryd.results10, go_sem]
          · (repeat (first | with_reducible assumption | with_reducible exact Below.refl _ _ | with_reducible refine Below.drew ?_ | with_reducible refine Below.setCell ?_ (by first | exact Nat.le_refl _ | exact Nat.le_add_right _ _ | assumption | omega | (simp; done) | (simp; omega)) _ | with_reducible refine Below.alloc ?_ (by first | exact Nat.le_refl _ | exact Nat.le_add_right _ _ | assumption | omega | (simp; done) | (simp; omega)) _ | refine Below.drew ?_ | refine Below.setCell ?_ (by first | exact Nat.le_refl _ | exact Nat.le_add_right _ _ | assumption | omega | (simp; done) | (simp; omega)) _ | refine Below.alloc ?_ (by first | exact Nat.le_refl _ | exact Nat.le_add_right _ _ | assumption | omega | (simp; done) | (simp; omega)) _))
      · rw [if_neg h2] at h
        injection h with h4 h5
        subst h4 h5
        go_enter Tryd.func10, Tryd.ntmps10
        go_wp2
        refine bodyPost_ret (v := .tuple #[.agg #[.int .u16 mx, .int .i64 cy, .int .i64 ba, .int .i64 bd, .int .i64 0, .int .i64 (rc + 1)], .bool true]) ?_ rfl ⟨rfl, ?_⟩
        · simp [results, Tryd.results10, go_sem]
        · (repeat (first | with_reducible assumption | with_reducible exact Below.refl _ _ | with_reducible refine Below.drew ?_ | with_reducible refine Below.setCell ?_ (by first | exact Nat.le_refl _ | exact Nat.le_add_right _ _ | assumption | omega | (simp; done) | (simp; omega)) _ | with_reducible refine Below.alloc ?_ (by first | exact Nat.le_refl _ | exact Nat.le_add_right _ _ | assumption | omega | (simp; done) | (simp; omega)) _ | refine Below.drew ?_ | refine Below.setCell ?_ (by first | exact Nat.le_refl _ | exact Nat.le_add_right _ _ | assumption | omega | (simp; done) | (simp; omega)) _ | refine Below.alloc ?_ (by first | exact Nat.le_refl _ | exact Nat.le_add_right _ _ | assumption | omega | (simp; done) | (simp; omega)) _))

set_option maxHeartbeats 1000000 in
theorem source_Highest (s : S6) (k : Int) (hs : InS k s) (hk : k ≤ 1000000) (v : Int) (h : highS s = v) (w : World) :
    Calls Tryd.prog 33 #[.agg #[.int .u16 s.mx, .int .i64 s.cy, .int .i64 s.ba, .int .i64 s.bd, .int .i64 s.pr, .int .i64 s.rc]] w fun e w' => e = .returned (.int .i64 v) ∧ Below w.heap.size w w' := by
  obtain ⟨m0, m1, c0, c1, a0, a1, d0, d1, p0, p1, q0, q1⟩ := hs
  obtain ⟨mx, cy, ba, bd, pr, rc⟩ := s
  unfold highS at h
  simp only at *
  subst h
  go_enter Tryd.func33, Tryd.ntmps33
  go_wp2
  go_ret
  exact ⟨rfl, by (repeat (first | with_reducible assumption | with_reducible exact Below.refl _ _ | with_reducible refine Below.drew ?_ | with_reducible refine Below.setCell ?_ (by first | exact Nat.le_refl _ | exact Nat.le_add_right _ _ | assumption | omega | (simp; done) | (simp; omega)) _ | with_reducible refine Below.alloc ?_ (by first | exact Nat.le_refl _ | exact Nat.le_add_right _ _ | assumption | omega | (simp; done) | (simp; omega)) _ | refine Below.drew ?_ | refine Below.setCell ?_ (by first | exact Nat.le_refl _ | exact Nat.le_add_right _ _ | assumption | omega | (simp; done) | (simp; omega)) _ | refine Below.alloc ?_ (by first | exact Nat.le_refl _ | exact Nat.le_add_right _ _ | assumption | omega | (simp; done) | (simp; omega)) _))⟩
set_option maxHeartbeats 1000000 in
theorem source_Expected (s : S6) (k : Int) (hs : InS k s) (hk : k ≤ 1000000) (v : Int) (h : expS s = v) (w : World) :
    Calls Tryd.prog 28 #[.agg #[.int .u16 s.mx, .int .i64 s.cy, .int .i64 s.ba, .int .i64 s.bd, .int .i64 s.pr, .int .i64 s.rc]] w fun e w' => e = .returned (.int .i64 v) ∧ Below w.heap.size w w' := by
  have HH := Lib.hid (fun W => source_Highest s k hs hk _ rfl W)
  obtain ⟨m0, m1, c0, c1, a0, a1, d0, d1, p0, p1, q0, q1⟩ := hs
  obtain ⟨mx, cy, ba, bd, pr, rc⟩ := s
  unfold expS at h
  unfold highS at HH
  simp only at *
  by_cases hp : 0 < pr
  · rw [if_pos hp] at h
    subst h
    go_enter Tryd.func28, Tryd.ntmps28
    go_wp2
    go_ret
    exact ⟨rfl, by (repeat (first | with_reducible assumption | with_reducible exact Below.refl _ _ | with_reducible refine Below.drew ?_ | with_reducible refine Below.setCell ?_ (by first | exact Nat.le_refl _ | exact Nat.le_add_right _ _ | assumption | omega | (simp; done) | (simp; omega)) _ | with_reducible refine Below.alloc ?_ (by first | exact Nat.le_refl _ | exact Nat.le_add_right _ _ | assumption | omega | (simp; done) | (simp; omega)) _ | refine Below.drew ?_ | refine Below.setCell ?_ (by first | exact Nat.le_refl _ | exact Nat.le_add_right _ _ | assumption | omega | (simp; done) | (simp; omega)) _ | refine Below.alloc ?_ (by first | exact Nat.le_refl _ | exact Nat.le_add_right _ _ | assumption | omega | (simp; done) | (simp; omega)) _))⟩
  · rw [if_neg hp] at h
    obtain ⟨y, hy⟩ : ∃ y, cy + mx = y := ⟨_, rfl⟩
    rw [hy] at h HH
    have y0 : 0 ≤ y := by omega
    have y1 : y ≤ 65536 * k + 65535 := by omega
    subst h
    clear hy
    have k1 := Blk.new w 27 #[.int .u16 mx, .int .i64 cy, .int .i64 ba, .int .i64 bd, .int .i64 pr, .int .i64 rc]
    have E0 := fun (g : Ext (w.alloc (.cells #[.int .u16 mx, .int .i64 cy, .int .i64 ba, .int .i64 bd, .int .i64 pr, .int .i64 rc] 27))) => g.cell (k1.cell 0) k1.lt
    have E1 := fun (g : Ext (w.alloc (.cells #[.int .u16 mx, .int .i64 cy, .int .i64 ba, .int .i64 bd, .int .i64 pr, .int .i64 rc] 27))) => g.cell (k1.cell 1) k1.lt
    have E2 := fun (g : Ext (w.alloc (.cells #[.int .u16 mx, .int .i64 cy, .int .i64 ba, .int .i64 bd, .int .i64 pr, .int .i64 rc] 27))) => g.cell (k1.cell 2) k1.lt
    have E3 := fun (g : Ext (w.alloc (.cells #[.int .u16 mx, .int .i64 cy, .int .i64 ba, .int .i64 bd, .int .i64 pr, .int .i64 rc] 27))) => g.cell (k1.cell 3) k1.lt
    have E4 := fun (g : Ext (w.alloc (.cells #[.int .u16 mx, .int .i64 cy, .int .i64 ba, .int .i64 bd, .int .i64 pr, .int .i64 rc] 27))) => g.cell (k1.cell 4) k1.lt
    have E5 := fun (g : Ext (w.alloc (.cells #[.int .u16 mx, .int .i64 cy, .int .i64 ba, .int .i64 bd, .int .i64 pr, .int .i64 rc] 27))) => g.cell (k1.cell 5) k1.lt
    simp at E0 E1 E2 E3 E4 E5
    go_enter Tryd.func28, Tryd.ntmps28
    go_wp2_with fail
    refine wp_region_ext (by kernel_rfl) (by kernel_rfl) ?_; (repeat (go_big_quiet_step ((first | (go_at_call 33; with_reducible exact calls_ext _ (HH.out _)))))); refine wpQuiet_nil ?_; rintro _ ⟨gq, rfl⟩
    clear E0 E1 E2 E3 E4 E5
    go_wp2_with fail
    go_ret
    refine ⟨rfl, ((Below.refl _ w).alloc (Nat.le_refl _) _).trans (gq.below.mono (by simp))⟩
end Go.Proofs.YtfoefkoneekolaaDoor
