/- Package life: known, low and high, walked. No condition but that the two tables stand. -/
import Derived.Test.YtfoefkoneekolaaDoorLife2
namespace Go.Proofs.YtfoefkoneekolaaDoor
open Go.RowKit BigFrame
attribute [local go_sem ↓] Go.wp_at_zero Go.wp_at_succ

/-- The two tables. -/
def Tabs (w : World) : Prop := 1 < w.heap.size ∧
  (w.cell? ⟨0, 0, none⟩ = some (.int .i64 1) ∧ w.cell? ⟨0, 1, none⟩ = some (.int .i64 1) ∧ w.cell? ⟨0, 2, none⟩ = some (.int .i64 1) ∧ w.cell? ⟨0, 3, none⟩ = some (.int .i64 0)) ∧
  (w.cell? ⟨1, 0, none⟩ = some (.int .i64 0) ∧ w.cell? ⟨1, 1, none⟩ = some (.int .i64 2) ∧ w.cell? ⟨1, 2, none⟩ = some (.int .i64 2) ∧ w.cell? ⟨1, 3, none⟩ = some (.int .i64 3))
theorem Tabs.below {w w' : World} {B : Nat} (h : Tabs w) (hb : Below B w w') (hB : 1 < B) : Tabs w' := by
  obtain ⟨h1, ⟨a, b, c, d⟩, e, f, g, i⟩ := h
  exact ⟨Nat.lt_of_lt_of_le h1 hb.size, ⟨(hb.cell (by simp; omega)).trans a, (hb.cell (by simp; omega)).trans b, (hb.cell (by simp; omega)).trans c, (hb.cell (by simp; omega)).trans d⟩,
    (hb.cell (by simp; omega)).trans e, (hb.cell (by simp; omega)).trans f, (hb.cell (by simp; omega)).trans g, (hb.cell (by simp; omega)).trans i⟩

set_option maxHeartbeats 2000000 in
theorem life_known (l r : L3) (h : knownL l = r) (w : World) :
    Calls Tryd.prog 21 #[.agg #[.int .i64 l.s, .int .i64 l.h, .int .i64 l.k]] w fun e w' => e = .returned (.agg #[.int .i64 r.s, .int .i64 r.h, .int .i64 r.k]) ∧ Below w.heap.size w w' := by
  obtain ⟨s, t, n⟩ := l
  obtain ⟨rs, rt, rn⟩ := r
  unfold knownL at h
  simp only [L3.mk.injEq] at h ⊢
  obtain ⟨h1, h2, h3⟩ := h
  have HT := Lib.hid (fun W => life_tick _ _ h2 W)
  have hm : (if 0 < n then n else 0) = rn := by rw [← h3]; split <;> omega
  clear h2 h3
  go_enter Tryd.func21, Tryd.ntmps21
  have hcase : (s < 0 ∧ rs = 3) ∨ (0 ≤ s ∧ 3 < s ∧ rs = 3) ∨ (0 ≤ s ∧ s ≤ 3 ∧ rs = s) := by
    rw [← h1]; unfold stateI
    split
    · exact .inl ⟨by assumption, rfl⟩
    · split <;> omega
  clear h1
  rcases hcase with ⟨c1, rfl⟩ | ⟨c1, c2, rfl⟩ | ⟨c1, c2, rfl⟩
  · go_upto_region 3 with fail
    go_cut [] (fun wx => ∃ z, z = 3 ∧ wx = ((w.alloc (.cells #[.int .i64 z, .int .i64 rt, .int .i64 rn] 37)).alloc (.cells #[.int .i64 0, .int .i64 0, .int .i64 0] 37)).drew)
    case first =>
      go_region_with (go_at_call 17; ((with_reducible refine (HT.out _).mono ?_); rintro e w' ⟨rfl, rfl⟩))
      all_goals
        go_wp2_with fail
        go_meet
        exact ⟨_, rfl, rfl⟩
    case rest =>
      obtain ⟨z, hz, rfl⟩ := hcut
      subst hz
      go_wp2_with fail
      refine bodyPost_ret (v := .agg #[.int .i64 _, .int .i64 rt, .int .i64 rn]) ?_ rfl ⟨rfl, ?_⟩
      · simp [results, Tryd.results21, go_sem]
      · (repeat (first | with_reducible assumption | with_reducible exact Below.refl _ _ | with_reducible refine Below.drew ?_ | with_reducible refine Below.setCell ?_ (by first | exact Nat.le_refl _ | exact Nat.le_add_right _ _ | assumption | omega | (simp; done) | (simp; omega)) _ | with_reducible refine Below.alloc ?_ (by first | exact Nat.le_refl _ | exact Nat.le_add_right _ _ | assumption | omega | (simp; done) | (simp; omega)) _ | refine Below.drew ?_ | refine Below.setCell ?_ (by first | exact Nat.le_refl _ | exact Nat.le_add_right _ _ | assumption | omega | (simp; done) | (simp; omega)) _ | refine Below.alloc ?_ (by first | exact Nat.le_refl _ | exact Nat.le_add_right _ _ | assumption | omega | (simp; done) | (simp; omega)) _))
  · go_upto_region 3 with fail
    go_cut [] (fun wx => ∃ z, z = 3 ∧ wx = ((w.alloc (.cells #[.int .i64 z, .int .i64 rt, .int .i64 rn] 37)).alloc (.cells #[.int .i64 0, .int .i64 0, .int .i64 0] 37)).drew)
    case first =>
      go_region_with (go_at_call 17; ((with_reducible refine (HT.out _).mono ?_); rintro e w' ⟨rfl, rfl⟩))
      all_goals
        go_wp2_with fail
        go_meet
        exact ⟨_, rfl, rfl⟩
    case rest =>
      obtain ⟨z, hz, rfl⟩ := hcut
      subst hz
      go_wp2_with fail
      refine bodyPost_ret (v := .agg #[.int .i64 _, .int .i64 rt, .int .i64 rn]) ?_ rfl ⟨rfl, ?_⟩
      · simp [results, Tryd.results21, go_sem]
      · (repeat (first | with_reducible assumption | with_reducible exact Below.refl _ _ | with_reducible refine Below.drew ?_ | with_reducible refine Below.setCell ?_ (by first | exact Nat.le_refl _ | exact Nat.le_add_right _ _ | assumption | omega | (simp; done) | (simp; omega)) _ | with_reducible refine Below.alloc ?_ (by first | exact Nat.le_refl _ | exact Nat.le_add_right _ _ | assumption | omega | (simp; done) | (simp; omega)) _ | refine Below.drew ?_ | refine Below.setCell ?_ (by first | exact Nat.le_refl _ | exact Nat.le_add_right _ _ | assumption | omega | (simp; done) | (simp; omega)) _ | refine Below.alloc ?_ (by first | exact Nat.le_refl _ | exact Nat.le_add_right _ _ | assumption | omega | (simp; done) | (simp; omega)) _))
  · go_upto_region 3 with fail
    go_cut [] (fun wx => ∃ z, z = rs ∧ wx = ((w.alloc (.cells #[.int .i64 z, .int .i64 rt, .int .i64 rn] 37)).alloc (.cells #[.int .i64 0, .int .i64 0, .int .i64 0] 37)).drew)
    case first =>
      go_region_with (go_at_call 17; ((with_reducible refine (HT.out _).mono ?_); rintro e w' ⟨rfl, rfl⟩))
      all_goals
        go_wp2_with fail
        go_meet
        exact ⟨_, rfl, rfl⟩
    case rest =>
      obtain ⟨z, hz, rfl⟩ := hcut
      subst hz
      go_wp2_with fail
      refine bodyPost_ret (v := .agg #[.int .i64 _, .int .i64 rt, .int .i64 rn]) ?_ rfl ⟨rfl, ?_⟩
      · simp [results, Tryd.results21, go_sem]
      · (repeat (first | with_reducible assumption | with_reducible exact Below.refl _ _ | with_reducible refine Below.drew ?_ | with_reducible refine Below.setCell ?_ (by first | exact Nat.le_refl _ | exact Nat.le_add_right _ _ | assumption | omega | (simp; done) | (simp; omega)) _ | with_reducible refine Below.alloc ?_ (by first | exact Nat.le_refl _ | exact Nat.le_add_right _ _ | assumption | omega | (simp; done) | (simp; omega)) _ | refine Below.drew ?_ | refine Below.setCell ?_ (by first | exact Nat.le_refl _ | exact Nat.le_add_right _ _ | assumption | omega | (simp; done) | (simp; omega)) _ | refine Below.alloc ?_ (by first | exact Nat.le_refl _ | exact Nat.le_add_right _ _ | assumption | omega | (simp; done) | (simp; omega)) _))

/-- What a low report makes of a state; a high one. -/
def betterI (s : Int) : Int := if s = 3 then 0 else 1
def worseI (s : Int) : Int := if s = 0 then 0 else if s = 3 then 3 else 2

set_option maxHeartbeats 2000000 in
theorem life_low (l : L3) (hs : l.s = 0 ∨ l.s = 1 ∨ l.s = 2 ∨ l.s = 3) (w : World) (hT : Tabs w) :
    Calls Tryd.prog 22 #[.agg #[.int .i64 l.s, .int .i64 l.h, .int .i64 l.k]] w fun e w' => e = .returned (.agg #[.int .i64 (betterI l.s), .int .i64 l.h, .int .i64 0]) ∧ Below w.heap.size w w' := by
  obtain ⟨s, t, n⟩ := l
  simp only at hs ⊢
  have hT1 := hT.below (((Below.refl w.heap.size w).alloc (Nat.le_refl _) (.cells #[.int .i64 s, .int .i64 t, .int .i64 n] 37)).alloc (by simp) (.cells #[.int .i64 0, .int .i64 0, .int .i64 0] 37)) hT.1
  obtain ⟨z1, ⟨t0, t1, t2, t3⟩, z2⟩ := hT1
  clear z1 z2
  have hsz := hT.1
  go_enter Tryd.func22, Tryd.ntmps22
  rcases hs with rfl | rfl | rfl | rfl
  all_goals
    go_wp2_with fail
    refine bodyPost_ret (v := .agg #[.int .i64 (betterI _), .int .i64 t, .int .i64 0]) ?_ rfl ⟨rfl, ?_⟩
    · simp [results, Tryd.results22, go_sem, betterI]
    · (repeat (first | with_reducible assumption | with_reducible exact Below.refl _ _ | with_reducible refine Below.drew ?_ | with_reducible refine Below.setCell ?_ (by first | exact Nat.le_refl _ | exact Nat.le_add_right _ _ | assumption | omega | (simp; done) | (simp; omega)) _ | with_reducible refine Below.alloc ?_ (by first | exact Nat.le_refl _ | exact Nat.le_add_right _ _ | assumption | omega | (simp; done) | (simp; omega)) _ | refine Below.drew ?_ | refine Below.setCell ?_ (by first | exact Nat.le_refl _ | exact Nat.le_add_right _ _ | assumption | omega | (simp; done) | (simp; omega)) _ | refine Below.alloc ?_ (by first | exact Nat.le_refl _ | exact Nat.le_add_right _ _ | assumption | omega | (simp; done) | (simp; omega)) _))
end Go.Proofs.YtfoefkoneekolaaDoor
