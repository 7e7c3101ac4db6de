/- The reference of package pace, walked: each function computes the plain Lean function named here. No condition. -/
import Derived.Test.YtomhnegfemdcdaaPace2
namespace Go.Proofs.Ytomhnegfemdcdaa
open Go.RowKit
attribute [local go_sem ↓] Go.wp_at_zero Go.wp_at_succ

set_option maxHeartbeats 2000000 in
theorem ref19_Fit (p r : P4) (h : fitP p = r) (w : World) :
    Calls Try.prog 17 #[.agg #[.int .i64 p.r, .int .i64 p.b, .int .i64 p.t, .int .i64 p.l]] w fun e w' => e = .returned (.agg #[.int .i64 r.r, .int .i64 r.b, .int .i64 r.t, .int .i64 r.l]) ∧ Below w.heap.size w w' := by
  obtain ⟨x0, x1, x2, x3⟩ := p
  obtain ⟨ra, rb, rc, rd⟩ := r
  unfold fitP at h
  simp only [P4.mk.injEq] at h ⊢
  obtain ⟨h1, h2, h3, h4⟩ := h
  rw [h2] at h3
  unfold clipI at h1 h2 h3 h4
  obtain ⟨m1, k1⟩ : ∃ m1, min x0 65535 = m1 := ⟨_, rfl⟩
  obtain ⟨m2, k2⟩ : ∃ m2, min x1 1048576 = m2 := ⟨_, rfl⟩
  obtain ⟨m3, k3⟩ : ∃ m3, min x2 rb = m3 := ⟨_, rfl⟩
  obtain ⟨m4, k4⟩ : ∃ m4, min x3 1099511627776 = m4 := ⟨_, rfl⟩
  rw [k1] at h1; rw [k2] at h2; rw [k3] at h3; rw [k4] at h4
  rw [← mn_eq] at k1 k2 k3 k4
  rw [← mx_eq] at h1 h2 h3 h4
  go_enter Try.func17, Try.ntmps17
  go_wp2
  refine bodyPost_ret (v := .agg #[.int .i64 ra, .int .i64 rb, .int .i64 rc, .int .i64 rd]) ?_ rfl ⟨rfl, ?_⟩
  · simp [results, Try.results17, go_sem]
  · (repeat (first | with_reducible assumption | with_reducible exact Below.refl _ _ | with_reducible refine Below.drew ?_ | with_reducible refine Below.setCell ?_ (by first | exact Nat.le_refl _ | exact Nat.le_add_right _ _ | assumption | omega | (simp; done) | (simp; omega)) _ | with_reducible refine Below.alloc ?_ (by first | exact Nat.le_refl _ | exact Nat.le_add_right _ _ | assumption | omega | (simp; done) | (simp; omega)) _ | refine Below.drew ?_ | refine Below.setCell ?_ (by first | exact Nat.le_refl _ | exact Nat.le_add_right _ _ | assumption | omega | (simp; done) | (simp; omega)) _ | refine Below.alloc ?_ (by first | exact Nat.le_refl _ | exact Nat.le_add_right _ _ | assumption | omega | (simp; done) | (simp; omega)) _))

set_option maxHeartbeats 4000000 in
theorem ref19_At (p r : P4) (now : Int) (h : atP p now = r) (w : World) :
    Calls Try.prog 14 #[.agg #[.int .i64 p.r, .int .i64 p.b, .int .i64 p.t, .int .i64 p.l], .int .i64 now] w fun e w' => e = .returned (.agg #[.int .i64 r.r, .int .i64 r.b, .int .i64 r.t, .int .i64 r.l]) ∧ Below w.heap.size w w' := by
  obtain ⟨fr, fb, ft, fl, c, n, m, q, hf, hc, hn, hm, hq, ⟨b1, b2, b3, b4, b5, b6, b7, b8⟩, ⟨b9, b10⟩, ⟨b11, b12⟩, ⟨b13, b14⟩, ⟨b15, b16⟩, hr⟩ := at_vals p r now h
  clear h
  obtain ⟨z, hz⟩ : ∃ z, min fb (ft + q) = z := ⟨_, rfl⟩
  rw [hz] at hr
  subst hr
  have HF := Lib.hid (fun W => ref19_Fit p _ hf W)
  obtain ⟨y, hy⟩ : ∃ y, min now 1099511627776 = y := ⟨_, rfl⟩
  unfold clipI at hc
  have hcase : (y ≤ fl ∧ n = fl ∧ z = ft) ∨ (fl < y ∧ n = y ∧ 1048576 ≤ y - fl ∧ z = fb) ∨ (fl < y ∧ n = y ∧ y - fl < 1048576 ∧ m = y - fl) := by
    rcases Int.lt_or_le fl y with h1 | h1
    · rcases Int.lt_or_le (y - fl) 1048576 with h2 | h2
      · exact .inr (.inr ⟨h1, by omega, h2, by omega⟩)
      · have : m = 1048576 := by omega
        rw [this] at hq
        exact .inr (.inl ⟨h1, by omega, h2, by omega⟩)
    · have : m = 0 := by omega
      rw [this] at hq
      exact .inl ⟨h1, by omega, by omega⟩
  rw [← mn_eq] at hy
  clear hf hc hn hm
  go_enter Try.func14, Try.ntmps14
  go_wp2_with fail
  refine (HF.out _).mono ?_
  rintro e w1 ⟨rfl, hb⟩
  have k1 := (Blk.new (w.alloc (.cells #[.int .i64 p.r, .int .i64 p.b, .int .i64 p.t, .int .i64 p.l] 33)) 33 #[.int .i64 0, .int .i64 0, .int .i64 0, .int .i64 0]).below hb (by simp)
  simp at k1
  have B1 : Below w.heap.size w w1 := (((Below.refl _ w).alloc (Nat.le_refl _) _).alloc (by simp) _).trans (hb.mono (by simp; omega))
  clear hb HF
  have r0 := k1.cell
  have g0 := k1.frozen
  have r1 := fun o => (k1.alloc o).cell
  have g1 := fun o => (k1.alloc o).frozen
  have hl1 := k1.lt
  simp at r0 r1
  have hz1 := B1.size
  have hfin : ∀ x1 x2 x3 x4 : Int, True := fun _ _ _ _ => trivial
  clear hfin
  rcases hcase with ⟨j1, rfl, rfl⟩ | ⟨j1, rfl, j2, rfl⟩ | ⟨j1, rfl, j2, rfl⟩
  · clear hz hq b11 b12 b13 b14
    go_wp2
    obtain ⟨w3, e3, k3, B3, _⟩ := four_set k1 rfl (.int .i64 fr) (.int .i64 fb) (.int .i64 z) (.int .i64 n) w.heap.size (Nat.le_add_right _ _)
    rw [e3]
    have r3 := fun o => (k3.alloc o).cell
    have B4 := B1.trans B3
    refine bodyPost_ret (v := .agg #[.int .i64 fr, .int .i64 fb, .int .i64 z, .int .i64 n]) ?_ rfl ⟨rfl, ?_⟩
    · simp [results, Try.results14, go_sem, r3]
    · exact B4.alloc B4.size _
  · have s1 : IntKind.i64.wrap (n - fl) = n - fl := IntWalk.i64_in _ (by omega)
    clear hz hq b13 b14
    go_wp2
    obtain ⟨w3, e3, k3, B3, _⟩ := four_set k1 rfl (.int .i64 fr) (.int .i64 z) (.int .i64 z) (.int .i64 n) w.heap.size (Nat.le_add_right _ _)
    rw [e3]
    have r3 := fun o => (k3.alloc o).cell
    have B4 := B1.trans B3
    refine bodyPost_ret (v := .agg #[.int .i64 fr, .int .i64 z, .int .i64 z, .int .i64 n]) ?_ rfl ⟨rfl, ?_⟩
    · simp [results, Try.results14, go_sem, r3]
    · exact B4.alloc B4.size _
  · have s1 : IntKind.i64.wrap (n - fl) = n - fl := IntWalk.i64_in _ (by omega)
    have s2 : fr * (n - fl) = q := by rw [Int.mul_comm]; exact hq
    have s3 : IntKind.i64.wrap q = q := IntWalk.i64_in _ (by omega)
    have s4 : IntKind.i64.wrap (ft + q) = ft + q := IntWalk.i64_in _ (by omega)
    rw [← mn_eq] at hz
    clear hq b13 b14
    go_wp2
    obtain ⟨w3, e3, k3, B3, _⟩ := four_set k1 rfl (.int .i64 fr) (.int .i64 fb) (.int .i64 z) (.int .i64 n) w.heap.size (Nat.le_add_right _ _)
    rw [e3]
    have r3 := fun o => (k3.alloc o).cell
    have B4 := B1.trans B3
    refine bodyPost_ret (v := .agg #[.int .i64 fr, .int .i64 fb, .int .i64 z, .int .i64 n]) ?_ rfl ⟨rfl, ?_⟩
    · simp [results, Try.results14, go_sem, r3]
    · exact B4.alloc B4.size _

set_option maxHeartbeats 4000000 in
theorem ref19_Take (p r : P4) (ok : Bool) (now n : Int) (h : takeP p now n = (r, ok)) (w : World) :
    Calls Try.prog 15 #[.agg #[.int .i64 p.r, .int .i64 p.b, .int .i64 p.t, .int .i64 p.l], .int .i64 now, .int .i64 n] w fun e w' => e = .returned (.tuple #[.agg #[.int .i64 r.r, .int .i64 r.b, .int .i64 r.t, .int .i64 r.l], .bool ok]) ∧ Below w.heap.size w w' := by
  obtain ⟨x, hx⟩ : ∃ x, atP p now = x := ⟨_, rfl⟩
  obtain ⟨m, hm⟩ : ∃ m, max 0 n = m := ⟨_, rfl⟩
  have hfit := atP_fit p now
  unfold takeP at h
  rw [hx] at h hfit
  rw [hm] at h
  unfold FitP at hfit
  obtain ⟨b1, b2, b3, b4, b5, b6, b7, b8⟩ := hfit
  have hm0 : 0 ≤ m := by omega
  have hlt : (x.t < n ∧ r = x ∧ ok = false) ∨ (n ≤ x.t ∧ m ≤ x.t ∧ r = ⟨x.r, x.b, x.t - m, x.l⟩ ∧ ok = true) := by
    by_cases h1 : x.t < m
    · rw [if_pos h1] at h
      injection h with h2 h3
      exact .inl ⟨by omega, h2.symm, h3.symm⟩
    · rw [if_neg h1] at h
      injection h with h2 h3
      exact .inr ⟨by omega, by omega, h2.symm, h3.symm⟩
  have HA := Lib.hid (fun W => ref19_At p _ _ hx W)
  clear hx h
  rw [← mx_eq] at hm
  go_enter Try.func15, Try.ntmps15
  go_wp2_with fail
  refine (HA.out _).mono ?_
  rintro e w1 ⟨rfl, hb⟩
  have k1 := (Blk.new (w.alloc (.cells #[.int .i64 p.r, .int .i64 p.b, .int .i64 p.t, .int .i64 p.l] 33)) 33 #[.int .i64 0, .int .i64 0, .int .i64 0, .int .i64 0]).below hb (by simp)
  simp at k1
  have B1 : Below w.heap.size w w1 := (((Below.refl _ w).alloc (Nat.le_refl _) _).alloc (by simp) _).trans (hb.mono (by simp; omega))
  clear hb HA
  have r0 := k1.cell
  have g0 := k1.frozen
  have r1 := fun o => (k1.alloc o).cell
  have g1 := fun o => (k1.alloc o).frozen
  have hl1 := k1.lt
  simp at r0 r1
  have hz1 := B1.size
  rcases hlt with ⟨j1, rfl, rfl⟩ | ⟨j1, j2, rfl, rfl⟩
  · clear hm hm0
    go_wp2
    obtain ⟨w3, e3, k3, B3, _⟩ := four_set k1 rfl (.int .i64 r.r) (.int .i64 r.b) (.int .i64 r.t) (.int .i64 r.l) w.heap.size (Nat.le_add_right _ _)
    rw [e3]
    have r3 := fun o => (k3.alloc o).cell
    have B4 := B1.trans B3
    refine bodyPost_ret (v := .tuple #[.agg #[.int .i64 r.r, .int .i64 r.b, .int .i64 r.t, .int .i64 r.l], .bool false]) ?_ rfl ⟨rfl, ?_⟩
    · simp [results, Try.results15, go_sem, r3]
    · exact B4.alloc B4.size _
  · have s1 : IntKind.i64.wrap (x.t - m) = x.t - m := IntWalk.i64_in _ (by omega)
    go_wp2
    obtain ⟨w3, e3, k3, B3, _⟩ := four_set k1 rfl (.int .i64 x.r) (.int .i64 x.b) (.int .i64 (x.t - m)) (.int .i64 x.l) w.heap.size (Nat.le_add_right _ _)
    rw [e3]
    have r3 := fun o => (k3.alloc o).cell
    have B4 := B1.trans B3
    refine bodyPost_ret (v := .tuple #[.agg #[.int .i64 x.r, .int .i64 x.b, .int .i64 (x.t - m), .int .i64 x.l], .bool true]) ?_ rfl ⟨rfl, ?_⟩
    · simp [results, Try.results15, go_sem, r3]
    · exact B4.alloc B4.size _
end Go.Proofs.Ytomhnegfemdcdaa
