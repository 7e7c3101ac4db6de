/- The functions of package loss, of its reference and of its statements, walked: each computes the plain Lean function named here. No condition. -/
import Derived.Test.YtfoefkoneekolaaDoorKit
namespace Go.Proofs.YtfoefkoneekolaaDoor
open Go.RowKit
attribute [local go_sem ↓] Go.wp_at_zero Go.wp_at_succ

/-- A fraction of 256. -/
def fracI (e r : Int) : Int :=
  if clipI e (-1099511627776) 1099511627776 ≤ 0 ∨ clipI e (-1099511627776) 1099511627776 - clipI r (-1099511627776) 1099511627776 ≤ 0 then 0
  else min ((clipI e (-1099511627776) 1099511627776 - clipI r (-1099511627776) 1099511627776) * 256 / clipI e (-1099511627776) 1099511627776) 255
/-- Hundredths. -/
def pctI (f : Int) : Int := clipI f 0 256 * 100 / 256

set_option maxHeartbeats 400000 in
theorem loss_clip (n lo hi r : Int) (h : clipI n lo hi = r) (w : World) :
    Calls Tryd.prog 15 #[.int .i64 n, .int .i64 lo, .int .i64 hi] w fun e w' => e = .returned (.int .i64 r) ∧ w = w' := by
  subst h
  go_enter Tryd.func15, Tryd.ntmps15
  go_wp2
  all_goals
    go_ret
    exact ⟨ret_int (by unfold clipI; omega), rfl⟩

set_option maxHeartbeats 800000 in
theorem loss_Fraction (x y r : Int) (h : fracI x y = r) (w : World) :
    Calls Tryd.prog 6 #[.int .i64 x, .int .i64 y] w fun e w' => e = .returned (.int .i64 r) ∧ w = w' := by
  obtain ⟨c, hc⟩ : ∃ c, clipI x (-1099511627776) 1099511627776 = c := ⟨_, rfl⟩
  obtain ⟨d, hd⟩ : ∃ d, clipI y (-1099511627776) 1099511627776 = d := ⟨_, rfl⟩
  have hb := clip_bd x (-1099511627776) 1099511627776 (by omega)
  have hb2 := clip_bd y (-1099511627776) 1099511627776 (by omega)
  rw [hc] at hb
  rw [hd] at hb2
  unfold fracI at h
  rw [hc, hd] at h
  obtain ⟨b1, b2⟩ := hb
  obtain ⟨b3, b4⟩ := hb2
  have HC := Lib.hid hc
  have HD := Lib.hid hd
  have HR := Lib.hid h
  clear hc hd h
  by_cases h1 : c ≤ 0
  · have g1 : decide (c ≤ 0) = true := by simpa using h1
    go_enter Tryd.func6, Tryd.ntmps6
    go_wp2_with (first | (go_at_call 15; ((with_reducible refine (loss_clip _ _ _ c HC.out _).mono ?_); rintro e w' ⟨rfl, rfl⟩)) | (go_at_call 15; ((with_reducible refine (loss_clip _ _ _ d HD.out _).mono ?_); rintro e w' ⟨rfl, rfl⟩)))
    go_ret
    exact ⟨ret_int (by rw [← HR.out, if_pos (Or.inl h1)]), rfl⟩
  · have g1 : decide (c ≤ 0) = false := by simpa using h1
    by_cases h2 : c - d ≤ 0
    · go_enter Tryd.func6, Tryd.ntmps6
      go_wp2_with (first | (go_at_call 15; ((with_reducible refine (loss_clip _ _ _ c HC.out _).mono ?_); rintro e w' ⟨rfl, rfl⟩)) | (go_at_call 15; ((with_reducible refine (loss_clip _ _ _ d HD.out _).mono ?_); rintro e w' ⟨rfl, rfl⟩)))
      go_ret
      exact ⟨ret_int (by rw [← HR.out, if_pos (Or.inr h2)]), rfl⟩
    · go_enter Tryd.func6, Tryd.ntmps6
      go_wp2_with (first | (go_at_call 15; ((with_reducible refine (loss_clip _ _ _ c HC.out _).mono ?_); rintro e w' ⟨rfl, rfl⟩)) | (go_at_call 15; ((with_reducible refine (loss_clip _ _ _ d HD.out _).mono ?_); rintro e w' ⟨rfl, rfl⟩)))
      all_goals
        go_ret
        exact ⟨ret_int (by rw [← HR.out, if_neg (by omega)]; omega), rfl⟩

/-- What is lost of 'expected', as LossNone asks it. -/
theorem none_law (e l f : Int) (he : 1 ≤ e) (he2 : e ≤ 65536) (hl : 0 ≤ l) (hl2 : l ≤ 65535) (h : fracI e (e - l) = f) :
    ((f == 0) = decide (256 * l < e)) ∧ ((f == 255) = decide (255 * e ≤ 256 * l)) := by
  unfold fracI at h
  have c1 : clipI e (-1099511627776) 1099511627776 = e := by unfold clipI; omega
  have c2 : clipI (e - l) (-1099511627776) 1099511627776 = e - l := by unfold clipI; omega
  rw [c1, c2] at h
  have h3 : e - (e - l) = l := by omega
  rw [h3] at h
  by_cases h1 : l ≤ 0
  · rw [if_pos (Or.inr h1)] at h
    subst h
    constructor
    · simp; omega
    · simp; omega
  · rw [if_neg (by omega)] at h
    have hd1 : l * 256 / e = 0 ↔ l * 256 < e := by
      constructor
      · intro hq
        have := Int.lt_ediv_add_one_mul_self (l * 256) (show 0 < e by omega)
        rw [hq] at this; omega
      · intro hq
        exact Int.ediv_eq_zero_of_lt (by omega) hq
    have hd2 : 255 ≤ l * 256 / e ↔ 255 * e ≤ l * 256 := Int.le_ediv_iff_mul_le (by omega)
    have hd3 : 0 ≤ l * 256 / e := Int.ediv_nonneg (by omega) (by omega)
    generalize l * 256 / e = q at *
    subst h
    constructor
    · rw [Bool.eq_iff_iff]; simp; omega
    · rw [Bool.eq_iff_iff]; simp; omega

attribute [local go_sem] i64_and65535
theorem frac_bd (x y : Int) : 0 ≤ fracI x y ∧ fracI x y ≤ 255 := by
  unfold fracI
  have hb := clip_bd x (-1099511627776) 1099511627776 (by omega)
  have hb2 := clip_bd y (-1099511627776) 1099511627776 (by omega)
  generalize clipI x (-1099511627776) 1099511627776 = c at *
  generalize clipI y (-1099511627776) 1099511627776 = d at *
  by_cases h : c ≤ 0 ∨ c - d ≤ 0
  · rw [if_pos h]; omega
  · rw [if_neg h]
    have : 0 ≤ (c - d) * 256 / c := Int.ediv_nonneg (by omega) (by omega)
    omega
/-- More lost of as many is no less. -/
theorem frac_more (x y m : Int) (hm : 0 ≤ m) : fracI x y ≤ fracI x (clipI y (-1099511627776) 1099511627776 - m) := by
  unfold fracI
  have hb := clip_bd x (-1099511627776) 1099511627776 (by omega)
  have hb2 := clip_bd y (-1099511627776) 1099511627776 (by omega)
  have hd : clipI (clipI y (-1099511627776) 1099511627776 - m) (-1099511627776) 1099511627776 ≤ clipI y (-1099511627776) 1099511627776 := by
    unfold clipI at *; omega
  generalize clipI (clipI y (-1099511627776) 1099511627776 - m) (-1099511627776) 1099511627776 = d2 at *
  generalize clipI x (-1099511627776) 1099511627776 = c at *
  generalize clipI y (-1099511627776) 1099511627776 = d at *
  by_cases h : c ≤ 0 ∨ c - d ≤ 0
  · rw [if_pos h]
    by_cases h2 : c ≤ 0 ∨ c - d2 ≤ 0
    · rw [if_pos h2]; omega
    · rw [if_neg h2]
      have : 0 ≤ (c - d2) * 256 / c := Int.ediv_nonneg (by omega) (by omega)
      omega
  · rw [if_neg h, if_neg (by omega)]
    have : (c - d) * 256 / c ≤ (c - d2) * 256 / c := Int.ediv_le_ediv (by omega) (by omega)
    omega
theorem pct_frac (f : Int) (h0 : 0 ≤ f) (h1 : f ≤ 255) : 0 ≤ pctI f ∧ pctI f < 100 ∧ (f = 0 → pctI f = 0) := by
  have : pctI f = f * 100 / 256 := by unfold pctI clipI; rw [show max 0 (min f 256) = f from by omega]
  rw [this]; omega

end Go.Proofs.YtfoefkoneekolaaDoor
