/- Package serial and its reference, walked: how far one number of 16 bits is behind another, and the whole number that is meant. No condition but the numbers' bounds. -/
import Derived.Test.YticagajaphoefaaKit
namespace Go.Proofs.Yticagajaphoefaa
open Go.RowKit

/-- How far b is behind a, modulo 65536. -/
def diffI (a b : Int) : Int := (b - a + 32768) % 65536 - 32768
theorem diff_bd (a b : Int) : -32768 ≤ diffI a b ∧ diffI a b ≤ 32767 := by unfold diffI; omega
/-- The whole number that is meant. -/
def extI (l n : Int) : Int := clipI l (-4611686018427387904) 4611686018427387904 + diffI (clipI l (-4611686018427387904) 4611686018427387904 % 65536) n
theorem ext_bd (l n : Int) : -4611686018427420672 ≤ extI l n ∧ extI l n ≤ 4611686018427420671 := by
  have h1 := clip_bd l (-4611686018427387904) 4611686018427387904 (by omega)
  have h2 := diff_bd (clipI l (-4611686018427387904) 4611686018427387904 % 65536) n
  unfold extI; omega
theorem ext_near (l n : Int) (h1 : -4611686018427387904 ≤ l) (h2 : l ≤ 4611686018427387904) : extI l n = l + diffI (l % 65536) n := by
  unfold extI
  have : clipI l (-4611686018427387904) 4611686018427387904 = l := by unfold clipI; omega
  rw [this]

theorem diff_walk (a b : Int) : wrap64 (IntKind.i16.wrap (IntKind.u16.wrap (b - a))) = diffI a b := by
  unfold wrap64 diffI
  simp [IntKind.wrap, IntKind.bits, IntKind.signed]
  split <;> omega

set_option maxHeartbeats 400000 in
theorem serial_Diff (a b r : Int) (h : diffI a b = r) (w : World) :
    Calls Try.prog 10 #[.int .u16 a, .int .u16 b] w fun e w' => e = .returned (.int .i64 r) ∧ w = w' := by
  subst h
  go_enter Try.func10, Try.ntmps10
  go_wp2
  go_ret
  exact ⟨ret_int (diff_walk a b), rfl⟩

set_option maxHeartbeats 400000 in
theorem serial_Less (a b : Int) (r : Bool) (h : decide (0 < diffI a b) = r) (w : World) :
    Calls Try.prog 12 #[.int .u16 a, .int .u16 b] w fun e w' => e = .returned (.bool r) ∧ w = w' := by
  obtain ⟨d, hd⟩ : ∃ d, diffI a b = d := ⟨_, rfl⟩
  rw [hd] at h
  have HD := Lib.hid hd
  have HR := Lib.hid h
  clear hd h
  go_enter Try.func12, Try.ntmps12
  go_wp2_with (go_at_call 10; ((with_reducible refine (serial_Diff _ _ d HD.out _).mono ?_); rintro e w' ⟨rfl, rfl⟩))
  go_ret
  exact ⟨ret_bool HR.out, rfl⟩

set_option maxHeartbeats 400000 in
theorem ref01_Diff (a b r : Int) (ha : 0 ≤ a) (ha2 : a ≤ 65535) (hb : 0 ≤ b) (hb2 : b ≤ 65535) (h : diffI a b = r) (w : World) :
    Calls Try.prog 11 #[.int .i64 a, .int .i64 b] w fun e w' => e = .returned (.int .i64 r) ∧ w = w' := by
  have hm : (b - a).tmod 65536 = b - a := by
    rcases Int.le_total 0 (b - a) with h0 | h0
    · rw [Int.tmod_eq_emod_of_nonneg h0]; omega
    · have : (b - a) = -(a - b) := by omega
      rw [this, Int.neg_tmod, Int.tmod_eq_emod_of_nonneg (by omega)]; omega
  have HR := Lib.hid h
  clear h
  by_cases h1 : b - a < 0
  · by_cases h2 : 32768 ≤ b - a + 65536
    · go_enter Try.func11, Try.ntmps11
      go_wp2
      go_ret
      exact ⟨ret_int (by rw [← HR.out]; unfold diffI; omega), rfl⟩
    · go_enter Try.func11, Try.ntmps11
      go_wp2
      go_ret
      exact ⟨ret_int (by rw [← HR.out]; unfold diffI; omega), rfl⟩
  · by_cases h2 : 32768 ≤ b - a
    · go_enter Try.func11, Try.ntmps11
      go_wp2
      go_ret
      exact ⟨ret_int (by rw [← HR.out]; unfold diffI; omega), rfl⟩
    · go_enter Try.func11, Try.ntmps11
      go_wp2
      go_ret
      exact ⟨ret_int (by rw [← HR.out]; unfold diffI; omega), rfl⟩

set_option maxHeartbeats 400000 in
theorem ref01_Low (n r : Int) (h : n % 65536 = r) (w : World) :
    Calls Try.prog 15 #[.int .i64 n] w fun e w' => e = .returned (.int .i64 r) ∧ w = w' := by
  have ht : (0 ≤ n.tmod 65536 ∧ n.tmod 65536 = r) ∨ (n.tmod 65536 < 0 ∧ n.tmod 65536 + 65536 = r) := by
    rw [tmod_eq_if]
    split <;> omega
  obtain ⟨t, htt⟩ : ∃ t, n.tmod 65536 = t := ⟨_, rfl⟩
  rw [htt] at ht
  have hr : 0 ≤ r ∧ r ≤ 65535 := by omega
  obtain ⟨r1, r2⟩ := hr
  clear h
  rcases ht with ⟨t1, t2⟩ | ⟨t1, t2⟩
  · have HR := Lib.hid t2
    clear t2
    go_enter Try.func15, Try.ntmps15
    go_wp2
    go_ret
    exact ⟨ret_int HR.out, rfl⟩
  · have HR := Lib.hid t2
    have t3 : -65536 ≤ t := by omega
    clear t2
    go_enter Try.func15, Try.ntmps15
    go_wp2
    go_ret
    exact ⟨ret_int HR.out, rfl⟩

set_option maxHeartbeats 400000 in
theorem serial_Extend (l n r : Int) (h : extI l n = r) (w : World) :
    Calls Try.prog 13 #[.int .i64 l, .int .u16 n] w fun e w' => e = .returned (.int .i64 r) ∧ w = w' := by
  obtain ⟨c, hc⟩ : ∃ c, clipI l (-4611686018427387904) 4611686018427387904 = c := ⟨_, rfl⟩
  have hb := clip_bd l (-4611686018427387904) 4611686018427387904 (by omega)
  unfold extI at h
  rw [hc] at hb h
  obtain ⟨d, hd⟩ : ∃ d, diffI (c % 65536) n = d := ⟨_, rfl⟩
  have db := diff_bd (c % 65536) n
  rw [hd] at db h
  obtain ⟨b1, b2⟩ := hb
  obtain ⟨d1, d2⟩ := db
  have hcc := clip_cases _ _ _ _ (by omega) hc
  clear hc
  have HR := Lib.hid h
  clear h
  have hw : IntKind.u16.wrap c = c % 65536 := by simp [IntKind.wrap, IntKind.bits, IntKind.signed]
  rcases hcc with ⟨s1, s2⟩ | ⟨s1, s3, s2⟩ | ⟨s1, s2⟩
  all_goals
    subst s2
    have HD := Lib.hid hd
    have HW := Lib.hid hw
    clear hd hw
    go_enter Try.func13, Try.ntmps13
    go_wp2_with fail
    first
      | (refine (serial_Diff _ _ d (by first | exact HD.out | (rw [HW.out]; exact HD.out)) _).mono ?_
         rintro e w' ⟨rfl, rfl⟩
         go_wp2
         go_ret
         exact ⟨ret_int HR.out, rfl⟩)
      | (go_wp2_with fail
         go_ways
         fail)

set_option maxHeartbeats 400000 in
theorem ref01_Extend (l n r : Int) (hn : 0 ≤ n) (hn2 : n ≤ 65535) (h : extI l n = r) (w : World) :
    Calls Try.prog 14 #[.int .i64 l, .int .i64 n] w fun e w' => e = .returned (.int .i64 r) ∧ w = w' := by
  obtain ⟨c, hc⟩ : ∃ c, clipI l (-4611686018427387904) 4611686018427387904 = c := ⟨_, rfl⟩
  have hb := clip_bd l (-4611686018427387904) 4611686018427387904 (by omega)
  unfold extI at h
  rw [hc] at hb h
  obtain ⟨lw, hlw⟩ : ∃ lw, c % 65536 = lw := ⟨_, rfl⟩
  have lb : 0 ≤ lw ∧ lw ≤ 65535 := by omega
  rw [hlw] at h
  obtain ⟨d, hd⟩ : ∃ d, diffI lw n = d := ⟨_, rfl⟩
  have db := diff_bd lw n
  rw [hd] at db h
  obtain ⟨b1, b2⟩ := hb
  obtain ⟨d1, d2⟩ := db
  obtain ⟨l1, l2⟩ := lb
  have hcc := clip_cases _ _ _ _ (by omega) hc
  clear hc
  have HR := Lib.hid h
  have HD := Lib.hid hd
  clear h hd
  rcases hcc with ⟨s1, s2⟩ | ⟨s1, s3, s2⟩ | ⟨s1, s2⟩
  all_goals
    subst s2
    have HL := Lib.hid hlw
    clear hlw
    go_enter Try.func14, Try.ntmps14
    go_wp2_with fail
    refine (ref01_Low _ lw HL.out _).mono ?_
    rintro e w' ⟨rfl, rfl⟩
    go_wp2_with fail
    refine (ref01_Diff _ _ d l1 l2 hn hn2 HD.out _).mono ?_
    rintro e w' ⟨rfl, rfl⟩
    go_wp2
    go_ret
    exact ⟨ret_int HR.out, rfl⟩

/-- The latest of the first k numbers behind 'first'. -/
def latN (X : Nat → Int) (f : Int) : Nat → Int
  | 0 => f
  | k + 1 => if 0 < diffI (latN X f k) (X k) then X k else latN X f k

set_option maxHeartbeats 1000000 in
theorem serial_Latest (f : Int) (a : Option Addr) (len cap : Nat) (X : Nat → Int) (w : World) (hS : SliceOf w a len cap 1 (fun i => [.int .u16 (X i)])) :
    Calls Try.prog 18 #[.int .u16 f, .slice a len cap] w fun e w' => e = .returned (.int .u16 (latN X f len)) ∧ w = w' := by
  obtain ⟨hl, hm, hc⟩ := hS
  unfold maxLen at hm
  have HC := Lib.hid hc
  clear hc
  go_enter Try.func18, Try.ntmps18
  go_wp2_with fail
  go_loop [0, 9] (fun x i => ∃ k : Nat, k ≤ len ∧ i = .int .i64 k ∧ x = .int .u16 (latN X f k)) (fun _ i => len - (intOf i).toNat)
  case atStart => exact ⟨0, Nat.zero_le _, rfl, rfl⟩
  case round =>
    obtain ⟨k, hk, rfl, rfl⟩ := hrel
    by_cases hlt : k < len
    · obtain ⟨b, off, rfl, hb, hcell⟩ := HC.out (by omega)
      have c0 := hcell k hlt 0 _ rfl
      simp only [Nat.mul_one, Nat.add_zero] at c0
      clear hcell
      by_cases hd : 0 < diffI (latN X f k) (X k)
      · have HL := Lib.hid (show decide (0 < diffI (latN X f k) (X k)) = true by simpa using hd)
        have HN := Lib.hid (show latN X f (k + 1) = X k by simp only [latN]; rw [if_pos hd])
        clear hd
        go_wp2_with (go_at_call 12; ((with_reducible refine (serial_Less _ _ _ HL.out _).mono ?_); rintro e w' ⟨rfl, rfl⟩))
        go_round
        case rel => exact ⟨k + 1, by omega, by go_num, by rw [HN.out]⟩
        case measure => simp [intOf]; omega
      · have HL := Lib.hid (show decide (0 < diffI (latN X f k) (X k)) = false by simpa using hd)
        have HN := Lib.hid (show latN X f (k + 1) = latN X f k by simp only [latN]; rw [if_neg hd])
        clear hd
        go_wp2_with (go_at_call 12; ((with_reducible refine (serial_Less _ _ _ HL.out _).mono ?_); rintro e w' ⟨rfl, rfl⟩))
        go_round
        case rel => exact ⟨k + 1, by omega, by go_num, by rw [HN.out]⟩
        case measure => simp [intOf]; omega
    · obtain rfl : k = len := by omega
      go_wp2
      go_ret
      exact ⟨rfl, rfl⟩
end Go.Proofs.Yticagajaphoefaa
