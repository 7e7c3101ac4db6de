/- The functions of package loss, of its reference and of its statements, walked: each computes the plain Lean function named here. No condition. -/
import Derived.Test.YthngobikokhdlaaKit
namespace Go.Proofs.Ythngobikokhdlaa
open Go.RowKit
attribute [local go_sem ↓] Go.wp_at_zero Go.wp_at_succ

/-- A fraction of 256. -/
def fracI (e r : Int) : Int :=
  if clipI e (-1099511627776) 1099511627776 ≤ 0 ∨ clipI e (-1099511627776) 1099511627776 - clipI r (-1099511627776) 1099511627776 ≤ 0 then 0
  else min ((clipI e (-1099511627776) 1099511627776 - clipI r (-1099511627776) 1099511627776) * 256 / clipI e (-1099511627776) 1099511627776) 255
/-- Hundredths. -/
def pctI (f : Int) : Int := clipI f 0 256 * 100 / 256

set_option maxHeartbeats 400000 in
theorem loss_clip (n lo hi r : Int) (h : clipI n lo hi = r) (w : World) :
    Calls Try.prog 28 #[.int .i64 n, .int .i64 lo, .int .i64 hi] w fun e w' => e = .returned (.int .i64 r) ∧ w = w' := by
  subst h
  go_enter Try.func28, Try.ntmps28
  go_wp2
  all_goals
    go_ret
    exact ⟨ret_int (by unfold clipI; omega), rfl⟩

set_option maxHeartbeats 400000 in
theorem ref14_near (n lo hi r : Int) (hlh : lo ≤ hi) (h : clipI n lo hi = r) (w : World) :
    Calls Try.prog 29 #[.int .i64 n, .int .i64 lo, .int .i64 hi] w fun e w' => e = .returned (.int .i64 r) ∧ w = w' := by
  subst h
  go_enter Try.func29, Try.ntmps29
  go_wp2
  all_goals
    go_ret
    exact ⟨ret_int (by unfold clipI; omega), rfl⟩

set_option maxHeartbeats 400000 in
theorem law14_clip (n r : Int) (h : clipI n (-1099511627776) 1099511627776 = r) (w : World) :
    Calls Try.prog 11 #[.int .i64 n] w fun e w' => e = .returned (.int .i64 r) ∧ w = w' := by
  subst h
  go_enter Try.func11, Try.ntmps11
  go_wp2
  all_goals
    go_ret
    exact ⟨ret_int (by unfold clipI; omega), rfl⟩

set_option maxHeartbeats 400000 in
theorem loss_Percent (n r : Int) (h : pctI n = r) (w : World) :
    Calls Try.prog 12 #[.int .i64 n] w fun e w' => e = .returned (.int .i64 r) ∧ w = w' := by
  subst h
  obtain ⟨c, hc⟩ : ∃ c, clipI n 0 256 = c := ⟨_, rfl⟩
  have hb := clip_bd n 0 256 (by omega)
  have hp : pctI n = c * 100 / 256 := by unfold pctI; rw [hc]
  rw [hp]
  rw [hc] at hb
  obtain ⟨b1, b2⟩ := hb
  have HC := Lib.hid hc
  clear hc hp
  go_enter Try.func12, Try.ntmps12
  go_wp2_with (go_at_call 28; ((with_reducible refine (loss_clip _ _ _ c HC.out _).mono ?_); rintro e w' ⟨rfl, rfl⟩))
  go_ret
  exact ⟨rfl, rfl⟩

set_option maxHeartbeats 800000 in
theorem loss_Fraction (x y r : Int) (h : fracI x y = r) (w : World) :
    Calls Try.prog 10 #[.int .i64 x, .int .i64 y] w fun e w' => e = .returned (.int .i64 r) ∧ w = w' := by
  obtain ⟨c, hc⟩ : ∃ c, clipI x (-1099511627776) 1099511627776 = c := ⟨_, rfl⟩
  obtain ⟨d, hd⟩ : ∃ d, clipI y (-1099511627776) 1099511627776 = d := ⟨_, rfl⟩
  have hb := clip_bd x (-1099511627776) 1099511627776 (by omega)
  have hb2 := clip_bd y (-1099511627776) 1099511627776 (by omega)
  rw [hc] at hb
  rw [hd] at hb2
  unfold fracI at h
  rw [hc, hd] at h
  obtain ⟨b1, b2⟩ := hb
  obtain ⟨b3, b4⟩ := hb2
  have HC := Lib.hid hc
  have HD := Lib.hid hd
  have HR := Lib.hid h
  clear hc hd h
  by_cases h1 : c ≤ 0
  · have g1 : decide (c ≤ 0) = true := by simpa using h1
    go_enter Try.func10, Try.ntmps10
    go_wp2_with (first | (go_at_call 28; ((with_reducible refine (loss_clip _ _ _ c HC.out _).mono ?_); rintro e w' ⟨rfl, rfl⟩)) | (go_at_call 28; ((with_reducible refine (loss_clip _ _ _ d HD.out _).mono ?_); rintro e w' ⟨rfl, rfl⟩)))
    go_ret
    exact ⟨ret_int (by rw [← HR.out, if_pos (Or.inl h1)]), rfl⟩
  · have g1 : decide (c ≤ 0) = false := by simpa using h1
    by_cases h2 : c - d ≤ 0
    · go_enter Try.func10, Try.ntmps10
      go_wp2_with (first | (go_at_call 28; ((with_reducible refine (loss_clip _ _ _ c HC.out _).mono ?_); rintro e w' ⟨rfl, rfl⟩)) | (go_at_call 28; ((with_reducible refine (loss_clip _ _ _ d HD.out _).mono ?_); rintro e w' ⟨rfl, rfl⟩)))
      go_ret
      exact ⟨ret_int (by rw [← HR.out, if_pos (Or.inr h2)]), rfl⟩
    · go_enter Try.func10, Try.ntmps10
      go_wp2_with (first | (go_at_call 28; ((with_reducible refine (loss_clip _ _ _ c HC.out _).mono ?_); rintro e w' ⟨rfl, rfl⟩)) | (go_at_call 28; ((with_reducible refine (loss_clip _ _ _ d HD.out _).mono ?_); rintro e w' ⟨rfl, rfl⟩)))
      all_goals
        go_ret
        exact ⟨ret_int (by rw [← HR.out, if_neg (by omega)]; omega), rfl⟩

set_option maxHeartbeats 800000 in
theorem ref14_Fraction (x y r : Int) (h : fracI x y = r) (w : World) :
    Calls Try.prog 13 #[.int .i64 x, .int .i64 y] w fun e w' => e = .returned (.int .i64 r) ∧ w = w' := by
  obtain ⟨c, hc⟩ : ∃ c, clipI x (-1099511627776) 1099511627776 = c := ⟨_, rfl⟩
  obtain ⟨d, hd⟩ : ∃ d, clipI y (-1099511627776) 1099511627776 = d := ⟨_, rfl⟩
  have hb := clip_bd x (-1099511627776) 1099511627776 (by omega)
  have hb2 := clip_bd y (-1099511627776) 1099511627776 (by omega)
  rw [hc] at hb
  rw [hd] at hb2
  unfold fracI at h
  rw [hc, hd] at h
  obtain ⟨b1, b2⟩ := hb
  obtain ⟨b3, b4⟩ := hb2
  have HC := Lib.hid hc
  have HD := Lib.hid hd
  have HR := Lib.hid h
  clear hc hd h
  by_cases h1 : c ≤ 0
  · have g1 : decide (c ≤ 0) = true := by simpa using h1
    go_enter Try.func13, Try.ntmps13
    go_wp2_with (first | (go_at_call 29; ((with_reducible refine (ref14_near _ _ _ c (by omega) HC.out _).mono ?_); rintro e w' ⟨rfl, rfl⟩)) | (go_at_call 29; ((with_reducible refine (ref14_near _ _ _ d (by omega) HD.out _).mono ?_); rintro e w' ⟨rfl, rfl⟩)))
    go_ret
    exact ⟨ret_int (by rw [← HR.out, if_pos (Or.inl h1)]), rfl⟩
  · have g1 : decide (c ≤ 0) = false := by simpa using h1
    by_cases h2 : c ≤ d
    · go_enter Try.func13, Try.ntmps13
      go_wp2_with (first | (go_at_call 29; ((with_reducible refine (ref14_near _ _ _ c (by omega) HC.out _).mono ?_); rintro e w' ⟨rfl, rfl⟩)) | (go_at_call 29; ((with_reducible refine (ref14_near _ _ _ d (by omega) HD.out _).mono ?_); rintro e w' ⟨rfl, rfl⟩)))
      go_ret
      exact ⟨ret_int (by rw [← HR.out, if_pos (Or.inr (by omega))]), rfl⟩
    · go_enter Try.func13, Try.ntmps13
      go_wp2_with (first | (go_at_call 29; ((with_reducible refine (ref14_near _ _ _ c (by omega) HC.out _).mono ?_); rintro e w' ⟨rfl, rfl⟩)) | (go_at_call 29; ((with_reducible refine (ref14_near _ _ _ d (by omega) HD.out _).mono ?_); rintro e w' ⟨rfl, rfl⟩)))
      all_goals
        go_ret
        exact ⟨ret_int (by rw [← HR.out, if_neg (by omega), Int.mul_comm (c - d)]; omega), rfl⟩

set_option maxHeartbeats 800000 in
theorem law14_awake (w : World) :
    Calls Try.prog 9 #[] w fun e w' => e = .returned (.bool true) ∧ w = w' := by
  have e1 : fracI 10 5 = 128 := by decide
  have e2 : fracI 4 0 = 255 := by decide
  have e3 : fracI 4 5 = 0 := by decide
  have e4 : pctI 128 = 50 := by decide
  have H1 := Lib.hid e1
  have H2 := Lib.hid e2
  have H3 := Lib.hid e3
  have H4 := Lib.hid e4
  clear e1 e2 e3 e4
  go_enter Try.func9, Try.ntmps9
  go_wp2_with fail
  refine (loss_Fraction _ _ _ H1.out _).mono ?_
  rintro e w' ⟨rfl, rfl⟩
  go_wp2_with fail
  refine (loss_Fraction _ _ _ H2.out _).mono ?_
  rintro e w' ⟨rfl, rfl⟩
  go_wp2_with fail
  refine (loss_Fraction _ _ _ H3.out _).mono ?_
  rintro e w' ⟨rfl, rfl⟩
  go_wp2_with fail
  refine (loss_Percent _ _ H4.out _).mono ?_
  rintro e w' ⟨rfl, rfl⟩
  go_wp2_with fail
  go_ret
  exact ⟨rfl, rfl⟩

/-- What is lost of 'expected', as LossNone asks it. -/
theorem none_law (e l f : Int) (he : 1 ≤ e) (he2 : e ≤ 65536) (hl : 0 ≤ l) (hl2 : l ≤ 65535) (h : fracI e (e - l) = f) :
    ((f == 0) = decide (256 * l < e)) ∧ ((f == 255) = decide (255 * e ≤ 256 * l)) := by
  unfold fracI at h
  have c1 : clipI e (-1099511627776) 1099511627776 = e := by unfold clipI; omega
  have c2 : clipI (e - l) (-1099511627776) 1099511627776 = e - l := by unfold clipI; omega
  rw [c1, c2] at h
  have h3 : e - (e - l) = l := by omega
  rw [h3] at h
  by_cases h1 : l ≤ 0
  · rw [if_pos (Or.inr h1)] at h
    subst h
    constructor
    · simp; omega
    · simp; omega
  · rw [if_neg (by omega)] at h
    have hd1 : l * 256 / e = 0 ↔ l * 256 < e := by
      constructor
      · intro hq
        have := Int.lt_ediv_add_one_mul_self (l * 256) (show 0 < e by omega)
        rw [hq] at this; omega
      · intro hq
        exact Int.ediv_eq_zero_of_lt (by omega) hq
    have hd2 : 255 ≤ l * 256 / e ↔ 255 * e ≤ l * 256 := Int.le_ediv_iff_mul_le (by omega)
    have hd3 : 0 ≤ l * 256 / e := Int.ediv_nonneg (by omega) (by omega)
    generalize l * 256 / e = q at *
    subst h
    constructor
    · rw [Bool.eq_iff_iff]; simp; omega
    · rw [Bool.eq_iff_iff]; simp; omega

attribute [local go_sem] i64_and65535
set_option maxHeartbeats 800000 in
theorem LossNone_w (a0 a1 : Int) (w : World) :
    Calls Try.prog 4 #[.int .i64 a0, .int .i64 a1] w fun e w' => e = .returned (.bool true) ∧ w = w' := by
  obtain ⟨x, hx⟩ : ∃ x, a0 % 65536 = x := ⟨_, rfl⟩
  obtain ⟨y, hy⟩ : ∃ y, a1 % 65536 = y := ⟨_, rfl⟩
  have b1 : 0 ≤ x := by omega
  have b2 : x ≤ 65535 := by omega
  have b3 : 0 ≤ y := by omega
  have b4 : y ≤ 65535 := by omega
  obtain ⟨f, hf⟩ : ∃ f, fracI (1 + x) (1 + x - y) = f := ⟨_, rfl⟩
  obtain ⟨l1, l2⟩ := none_law (1 + x) y f (by omega) (by omega) b3 b4 hf
  have HF := Lib.hid hf
  have L1 := Lib.hid l1
  have L2 := Lib.hid l2
  clear l1 l2 hf
  go_enter Try.func4, Try.ntmps4
  go_wp2_with fail
  refine (law14_awake _).mono ?_
  rintro e w' ⟨rfl, rfl⟩
  go_wp2_with fail
  refine (loss_Fraction _ _ _ HF.out _).mono ?_
  rintro e w' ⟨rfl, rfl⟩
  have l1 := L1.out
  have l2 := L2.out
  go_wp2_with fail
  go_ret
  exact ⟨rfl, rfl⟩

theorem frac_bd (x y : Int) : 0 ≤ fracI x y ∧ fracI x y ≤ 255 := by
  unfold fracI
  have hb := clip_bd x (-1099511627776) 1099511627776 (by omega)
  have hb2 := clip_bd y (-1099511627776) 1099511627776 (by omega)
  generalize clipI x (-1099511627776) 1099511627776 = c at *
  generalize clipI y (-1099511627776) 1099511627776 = d at *
  by_cases h : c ≤ 0 ∨ c - d ≤ 0
  · rw [if_pos h]; omega
  · rw [if_neg h]
    have : 0 ≤ (c - d) * 256 / c := Int.ediv_nonneg (by omega) (by omega)
    omega
/-- More lost of as many is no less. -/
theorem frac_more (x y m : Int) (hm : 0 ≤ m) : fracI x y ≤ fracI x (clipI y (-1099511627776) 1099511627776 - m) := by
  unfold fracI
  have hb := clip_bd x (-1099511627776) 1099511627776 (by omega)
  have hb2 := clip_bd y (-1099511627776) 1099511627776 (by omega)
  have hd : clipI (clipI y (-1099511627776) 1099511627776 - m) (-1099511627776) 1099511627776 ≤ clipI y (-1099511627776) 1099511627776 := by
    unfold clipI at *; omega
  generalize clipI (clipI y (-1099511627776) 1099511627776 - m) (-1099511627776) 1099511627776 = d2 at *
  generalize clipI x (-1099511627776) 1099511627776 = c at *
  generalize clipI y (-1099511627776) 1099511627776 = d at *
  by_cases h : c ≤ 0 ∨ c - d ≤ 0
  · rw [if_pos h]
    by_cases h2 : c ≤ 0 ∨ c - d2 ≤ 0
    · rw [if_pos h2]; omega
    · rw [if_neg h2]
      have : 0 ≤ (c - d2) * 256 / c := Int.ediv_nonneg (by omega) (by omega)
      omega
  · rw [if_neg h, if_neg (by omega)]
    have : (c - d) * 256 / c ≤ (c - d2) * 256 / c := Int.ediv_le_ediv (by omega) (by omega)
    omega
theorem pct_frac (f : Int) (h0 : 0 ≤ f) (h1 : f ≤ 255) : 0 ≤ pctI f ∧ pctI f < 100 ∧ (f = 0 → pctI f = 0) := by
  have : pctI f = f * 100 / 256 := by unfold pctI clipI; rw [show max 0 (min f 256) = f from by omega]
  rw [this]; omega

set_option maxHeartbeats 1600000 in
theorem LossFractions_w (a0 a1 a2 : Int) (w : World) :
    Calls Try.prog 3 #[.int .i64 a0, .int .i64 a1, .int .i64 a2] w fun e w' => e = .returned (.bool true) ∧ w = w' := by
  obtain ⟨f, hf⟩ : ∃ f, fracI a0 a1 = f := ⟨_, rfl⟩
  obtain ⟨y, hy⟩ : ∃ y, a2 % 65536 = y := ⟨_, rfl⟩
  obtain ⟨d, hd⟩ : ∃ d, clipI a1 (-1099511627776) 1099511627776 = d := ⟨_, rfl⟩
  obtain ⟨g, hg⟩ : ∃ g, fracI a0 (d - y) = g := ⟨_, rfl⟩
  obtain ⟨p, hp⟩ : ∃ p, pctI f = p := ⟨_, rfl⟩
  obtain ⟨q, hq⟩ : ∃ q, pctI a0 = q := ⟨_, rfl⟩
  have b1 : 0 ≤ y := by omega
  have b2 : y ≤ 65535 := by omega
  have db := clip_bd a1 (-1099511627776) 1099511627776 (by omega)
  have fb := frac_bd a0 a1
  have fm := frac_more a0 a1 y b1
  rw [hd, hg, hf] at fm
  rw [hf] at fb
  rw [hd] at db
  obtain ⟨db1, db2⟩ := db
  obtain ⟨fb1, fb2⟩ := fb
  obtain ⟨p1, p2, p3⟩ := pct_frac f fb1 fb2
  rw [hp] at p1 p2 p3
  have hq' : clipI a0 0 256 * 100 / 256 = q := hq
  have HF := Lib.hid hf
  have HG := Lib.hid hg
  have HD := Lib.hid hd
  have HP := Lib.hid hp
  have HQ := Lib.hid hq
  clear hf hg hd hp hq
  have P3 := Lib.hid p3
  clear p3
  have step : ∀ (c : Int), clipI a0 0 256 = c → (a0 < 0 ∧ c = 0) ∨ (0 ≤ a0 ∧ a0 ≤ 256 ∧ c = a0) ∨ (256 < a0 ∧ c = 256) := by
    intro c hc; unfold clipI at hc; omega
  have hs := step _ rfl
  have fin : ∀ (W : World), (fun e w' => e = Ending.returned (.bool true) ∧ W = w') (Ending.returned (.bool true)) W := fun W => ⟨rfl, rfl⟩
  clear step fin
  by_cases h0 : f = 0
  · have hp0 := P3.out h0
    have n1 : (f != 0) = false := by simp [h0]
    have n2 : (p == 0) = true := by simp [hp0]
    clear h0 hp0
    rcases hs with ⟨s1, s2⟩ | ⟨s1, s2, s3⟩ | ⟨s1, s2⟩
    all_goals
      first | rw [s2] at hq' | rw [s3] at hq'
      have q1 := Int.le_of_eq hq'
      have q2 := Int.le_of_eq hq'.symm
      clear hq'
      first | clear s3 | clear s2
      go_enter Try.func3, Try.ntmps3
      go_wp2_with fail
      refine (law14_awake _).mono ?_
      rintro e w' ⟨rfl, rfl⟩
      go_wp2_with fail
      refine (loss_Fraction _ _ _ HF.out _).mono ?_
      rintro e w' ⟨rfl, rfl⟩
      go_wp2_with fail
      refine (law14_clip _ _ HD.out _).mono ?_
      rintro e w' ⟨rfl, rfl⟩
      go_wp2_with fail
      refine (loss_Fraction _ _ _ HG.out _).mono ?_
      rintro e w' ⟨rfl, rfl⟩
      go_wp2_with fail
      refine (loss_Percent _ _ HP.out _).mono ?_
      rintro e w' ⟨rfl, rfl⟩
      go_wp2_with fail
      refine (ref14_Fraction _ _ _ HF.out _).mono ?_
      rintro e w' ⟨rfl, rfl⟩
      go_wp2_with fail
      refine (loss_Percent _ _ HQ.out _).mono ?_
      rintro e w' ⟨rfl, rfl⟩
      go_wp2_with fail
      all_goals
        go_ret
        exact ⟨ret_bool (by simp; omega), rfl⟩
  · have n1 : (f != 0) = true := by simp [h0]
    clear h0
    rcases hs with ⟨s1, s2⟩ | ⟨s1, s2, s3⟩ | ⟨s1, s2⟩
    all_goals
      first | rw [s2] at hq' | rw [s3] at hq'
      have q1 := Int.le_of_eq hq'
      have q2 := Int.le_of_eq hq'.symm
      clear hq'
      first | clear s3 | clear s2
      go_enter Try.func3, Try.ntmps3
      go_wp2_with fail
      refine (law14_awake _).mono ?_
      rintro e w' ⟨rfl, rfl⟩
      go_wp2_with fail
      refine (loss_Fraction _ _ _ HF.out _).mono ?_
      rintro e w' ⟨rfl, rfl⟩
      go_wp2_with fail
      refine (law14_clip _ _ HD.out _).mono ?_
      rintro e w' ⟨rfl, rfl⟩
      go_wp2_with fail
      refine (loss_Fraction _ _ _ HG.out _).mono ?_
      rintro e w' ⟨rfl, rfl⟩
      go_wp2_with fail
      refine (loss_Percent _ _ HP.out _).mono ?_
      rintro e w' ⟨rfl, rfl⟩
      go_wp2_with fail
      refine (ref14_Fraction _ _ _ HF.out _).mono ?_
      rintro e w' ⟨rfl, rfl⟩
      go_wp2_with fail
      refine (loss_Percent _ _ HQ.out _).mono ?_
      rintro e w' ⟨rfl, rfl⟩
      go_wp2_with fail
      all_goals
        go_ret
        exact ⟨ret_bool (by simp; omega), rfl⟩

theorem LossNone_walk (a0 : Int) (a1 : Int) (w : World) (_a0w : (Lit.int .i64 a0).wf = true) (_a1w : (Lit.int .i64 a1).wf = true) :
    Calls Try.prog 4 #[.int .i64 a0, .int .i64 a1] w fun e w' => e = .returned (.bool true) ∧ Below w.heap.size w w' :=
  (LossNone_w a0 a1 w).mono fun _ _ ⟨he, hw⟩ => ⟨he, hw ▸ Below.refl _ _⟩
theorem LossFractions_walk (a0 : Int) (a1 : Int) (a2 : Int) (w : World) (_a0w : (Lit.int .i64 a0).wf = true) (_a1w : (Lit.int .i64 a1).wf = true) (_a2w : (Lit.int .i64 a2).wf = true) :
    Calls Try.prog 3 #[.int .i64 a0, .int .i64 a1, .int .i64 a2] w fun e w' => e = .returned (.bool true) ∧ Below w.heap.size w w' :=
  (LossFractions_w a0 a1 a2 w).mono fun _ _ ⟨he, hw⟩ => ⟨he, hw ▸ Below.refl _ _⟩
end Go.Proofs.Ythngobikokhdlaa
