/- Package pace, walked further: each function computes the plain Lean function named here. No condition. -/
import Derived.Test.YtomhnegfemdcdaaPace
import Derived.Deep.DeepCutAuto
namespace Go.Proofs.Ytomhnegfemdcdaa
open Go.RowKit
attribute [local go_sem ↓] Go.wp_at_zero Go.wp_at_succ

set_option maxHeartbeats 4000000 in
theorem pace_Take (p r : P4) (ok : Bool) (now n : Int) (h : takeP p now n = (r, ok)) (w : World) :
    Calls Try.prog 12 #[.agg #[.int .i64 p.r, .int .i64 p.b, .int .i64 p.t, .int .i64 p.l], .int .i64 now, .int .i64 n] w fun e w' => e = .returned (.tuple #[.agg #[.int .i64 r.r, .int .i64 r.b, .int .i64 r.t, .int .i64 r.l], .bool ok]) ∧ Below w.heap.size w w' := by
  obtain ⟨x, hx⟩ : ∃ x, atP p now = x := ⟨_, rfl⟩
  obtain ⟨m, hm⟩ : ∃ m, max 0 n = m := ⟨_, rfl⟩
  have hfit := atP_fit p now
  unfold takeP at h
  rw [hx] at h hfit
  rw [hm] at h
  unfold FitP at hfit
  obtain ⟨b1, b2, b3, b4, b5, b6, b7, b8⟩ := hfit
  have hm0 : 0 ≤ m := by omega
  have HA := Lib.hid (fun W => pace_At p _ _ hx W)
  have HR := Lib.hid h
  clear hx h
  rw [← mx_eq] at hm
  go_enter Try.func12, Try.ntmps12
  go_wp2_with fail
  refine (HA.out _).mono ?_
  rintro e w1 ⟨rfl, hb⟩
  have k1 := ((Blk.new w 25 #[.int .i64 p.r, .int .i64 p.b, .int .i64 p.t, .int .i64 p.l]).alloc (.cells #[.int .i64 0, .int .i64 0, .int .i64 0, .int .i64 0] 25)).below hb (by simp; omega)
  have k2 := (Blk.new (w.alloc (.cells #[.int .i64 p.r, .int .i64 p.b, .int .i64 p.t, .int .i64 p.l] 25)) 25 #[.int .i64 0, .int .i64 0, .int .i64 0, .int .i64 0]).below hb (by simp)
  simp at k2
  have B1 : Below w.heap.size w w1 := (((Below.refl _ w).alloc (Nat.le_refl _) _).alloc (by simp) _).trans (hb.mono (by simp; omega))
  clear hb
  have c0 := k1.cell
  have f0 := k1.frozen
  simp at c0
  go_upto_region 2 with fail
  obtain ⟨w2, e2, k1', B2, hk⟩ := four_set k1 rfl (.int .i64 x.r) (.int .i64 x.b) (.int .i64 x.t) (.int .i64 x.l) w.heap.size (Nat.le_refl _)
  rw [e2]
  have k2' : Blk w2 (w.heap.size + 1) 25 #[.int .i64 0, .int .i64 0, .int .i64 0, .int .i64 0] := (hk _ (by omega)).trans k2
  have B3 := B1.trans B2
  clear e2 B2 hk k1 k2 B1 c0 f0
  have c0 := k1'.cell 0
  have c1 := k1'.cell 1
  have c2 := k1'.cell 2
  have c3 := k1'.cell 3
  have f0 := k1'.frozen
  simp at c0 c1 c2 c3
  have hz2 := k2'.lt
  have r0 := k2'.cell
  have g0 := k2'.frozen
  simp at r0
  by_cases hlt : x.t < m
  · go_wp2
    refine bodyPost_ret (v := .tuple #[.agg #[.int .i64 x.r, .int .i64 x.b, .int .i64 x.t, .int .i64 x.l], .bool false]) ?_ rfl ⟨?_, ?_⟩
    · simp [results, Try.results12, go_sem, r0, c0, c1, c2, c3]
    · have h := HR.out
      rw [if_pos (by omega)] at h
      injection h with h1 h2
      subst h1 h2
      rfl
    · (repeat (first | with_reducible assumption | with_reducible exact Below.refl _ _ | with_reducible refine Below.drew ?_ | with_reducible refine Below.setCell ?_ (by first | exact Nat.le_refl _ | exact Nat.le_add_right _ _ | assumption | omega | (simp; done) | (simp; omega)) _ | with_reducible refine Below.alloc ?_ (by first | exact Nat.le_refl _ | exact Nat.le_add_right _ _ | assumption | omega | (simp; done) | (simp; omega)) _ | refine Below.drew ?_ | refine Below.setCell ?_ (by first | exact Nat.le_refl _ | exact Nat.le_add_right _ _ | assumption | omega | (simp; done) | (simp; omega)) _ | refine Below.alloc ?_ (by first | exact Nat.le_refl _ | exact Nat.le_add_right _ _ | assumption | omega | (simp; done) | (simp; omega)) _))
  · have s1 : IntKind.i64.wrap (x.t - m) = x.t - m := IntWalk.i64_in _ (by omega)
    go_wp2
    refine bodyPost_ret (v := .tuple #[.agg #[.int .i64 x.r, .int .i64 x.b, .int .i64 (x.t - m), .int .i64 x.l], .bool true]) ?_ rfl ⟨?_, ?_⟩
    · simp [results, Try.results12, go_sem, r0, c0, c1, c2, c3]
    · have h := HR.out
      rw [if_neg (by omega)] at h
      injection h with h1 h2
      subst h1 h2
      rfl
    · (repeat (first | with_reducible assumption | with_reducible exact Below.refl _ _ | with_reducible refine Below.drew ?_ | with_reducible refine Below.setCell ?_ (by first | exact Nat.le_refl _ | exact Nat.le_add_right _ _ | assumption | omega | (simp; done) | (simp; omega)) _ | with_reducible refine Below.alloc ?_ (by first | exact Nat.le_refl _ | exact Nat.le_add_right _ _ | assumption | omega | (simp; done) | (simp; omega)) _ | refine Below.drew ?_ | refine Below.setCell ?_ (by first | exact Nat.le_refl _ | exact Nat.le_add_right _ _ | assumption | omega | (simp; done) | (simp; omega)) _ | refine Below.alloc ?_ (by first | exact Nat.le_refl _ | exact Nat.le_add_right _ _ | assumption | omega | (simp; done) | (simp; omega)) _))

set_option maxHeartbeats 4000000 in
theorem pace_Change (p r : P4) (now n : Int) (h : changeP p now n = r) (w : World) :
    Calls Try.prog 16 #[.agg #[.int .i64 p.r, .int .i64 p.b, .int .i64 p.t, .int .i64 p.l], .int .i64 now, .int .i64 n] w fun e w' => e = .returned (.agg #[.int .i64 r.r, .int .i64 r.b, .int .i64 r.t, .int .i64 r.l]) ∧ Below w.heap.size w w' := by
  obtain ⟨x, hx⟩ : ∃ x, atP p now = x := ⟨_, rfl⟩
  unfold changeP at h
  rw [hx] at h
  have HA := Lib.hid (fun W => pace_At p _ _ hx W)
  have HF := Lib.hid (fun W => pace_fit _ _ h W)
  clear hx h
  go_enter Try.func16, Try.ntmps16
  go_wp2_with fail
  refine (HA.out _).mono ?_
  rintro e w1 ⟨rfl, hb⟩
  have k1 := ((Blk.new w 25 #[.int .i64 p.r, .int .i64 p.b, .int .i64 p.t, .int .i64 p.l]).alloc (.cells #[.int .i64 0, .int .i64 0, .int .i64 0, .int .i64 0] 25)).below hb (by simp; omega)
  have k2 := (Blk.new (w.alloc (.cells #[.int .i64 p.r, .int .i64 p.b, .int .i64 p.t, .int .i64 p.l] 25)) 25 #[.int .i64 0, .int .i64 0, .int .i64 0, .int .i64 0]).below hb (by simp)
  simp at k2
  have B1 : Below w.heap.size w w1 := (((Below.refl _ w).alloc (Nat.le_refl _) _).alloc (by simp) _).trans (hb.mono (by simp; omega))
  clear hb
  have c0 := k1.cell
  have f0 := k1.frozen
  simp at c0
  go_upto_region 2 with fail
  obtain ⟨w2, e2, k1', B2, hk⟩ := four_set k1 rfl (.int .i64 x.r) (.int .i64 x.b) (.int .i64 x.t) (.int .i64 x.l) w.heap.size (Nat.le_refl _)
  rw [e2]
  have k2' : Blk w2 (w.heap.size + 1) 25 #[.int .i64 0, .int .i64 0, .int .i64 0, .int .i64 0] := (hk _ (by omega)).trans k2
  have B3 := B1.trans B2
  clear e2 B2 hk k1 k2 B1 c0 f0
  have c0 := k1'.cell
  have f0 := k1'.frozen
  simp at c0
  go_wp2_with fail
  refine (HF.out _).mono ?_
  rintro e w4 ⟨rfl, hb⟩
  have hz := k2'.lt
  have k3 := (k2'.far (p := ⟨w.heap.size, 0, none⟩) (by simp) (.int .i64 n)).below hb (by simpa using k2'.lt)
  have B4 : Below w.heap.size w w4 := (B3.setCell (Nat.le_refl _) _).trans (hb.mono (by simp; omega))
  have r0 := k3.cell
  have g0 := k3.frozen
  have hz4 := k3.lt
  simp at r0
  go_wp2
  refine bodyPost_ret (v := .agg #[.int .i64 r.r, .int .i64 r.b, .int .i64 r.t, .int .i64 r.l]) ?_ rfl ⟨rfl, ?_⟩
  · simp [results, Try.results16, go_sem, r0]
  · (repeat (first | with_reducible assumption | with_reducible exact Below.refl _ _ | with_reducible refine Below.drew ?_ | with_reducible refine Below.setCell ?_ (by first | exact Nat.le_refl _ | exact Nat.le_add_right _ _ | assumption | omega | (simp; done) | (simp; omega)) _ | with_reducible refine Below.alloc ?_ (by first | exact Nat.le_refl _ | exact Nat.le_add_right _ _ | assumption | omega | (simp; done) | (simp; omega)) _ | refine Below.drew ?_ | refine Below.setCell ?_ (by first | exact Nat.le_refl _ | exact Nat.le_add_right _ _ | assumption | omega | (simp; done) | (simp; omega)) _ | refine Below.alloc ?_ (by first | exact Nat.le_refl _ | exact Nat.le_add_right _ _ | assumption | omega | (simp; done) | (simp; omega)) _))
end Go.Proofs.Ytomhnegfemdcdaa
