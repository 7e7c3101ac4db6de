/- The statements of layer 1, walked. -/
import Derived.Test.YticagajaphoefaaSerial
namespace Go.Proofs.Yticagajaphoefaa
open Go.RowKit

theorem wf_u16 {n : Int} (h : (Lit.int .u16 n).wf = true) : 0 ≤ n ∧ n ≤ 65535 := by
  simp [Lit.wf, IntKind.min, IntKind.max, IntKind.signed, IntKind.bits] at h
  omega

set_option maxHeartbeats 1000000 in
theorem law01_awake (w : World) :
    Calls Try.prog 9 #[] w fun e w' => e = .returned (.bool true) ∧ Below w.heap.size w w' := by
  have e1 : diffI 65535 1 = 2 := by decide
  have e2 : decide (0 < diffI 1 65535) = false := by decide
  have e3 : extI 70000 4463 = 69999 := by decide
  have H1 := Lib.hid e1
  have H2 := Lib.hid e2
  have H3 := Lib.hid e3
  clear e1 e2 e3
  go_enter Try.func9, Try.ntmps9
  go_wp2_with fail
  refine (serial_Diff _ _ _ H1.out _).mono ?_
  rintro e w' ⟨rfl, rfl⟩
  go_wp2_with fail
  refine (serial_Less _ _ _ H2.out _).mono ?_
  rintro e w' ⟨rfl, rfl⟩
  go_wp2_with fail
  refine (serial_Extend _ _ _ H3.out _).mono ?_
  rintro e w' ⟨rfl, rfl⟩
  go_wp2_with fail
  have hS : SliceOf (w.alloc (.cells #[.int .u16 6, .int .u16 4] 22)) (some ⟨w.heap.size, 0, none⟩) 2 2 1 (fun i => [.int .u16 ((fun i => if i = 0 then (6 : Int) else 4) i)]) := by
    refine ⟨Nat.le_refl _, by decide, fun _ => ⟨_, 0, rfl, by simp, fun i hi j v hv => ?_⟩⟩
    match i, hi, j, hv with
    | 0, _, 0, hv => simp at hv; subst hv; simp [go_sem]
    | 1, _, 0, hv => simp at hv; subst hv; simp [go_sem]
  have hL : latN (fun i => if i = 0 then (6 : Int) else 4) 5 2 = 6 := by decide
  have c := serial_Latest 5 _ _ _ _ _ hS
  rw [hL] at c
  refine c.mono ?_
  rintro e w' ⟨rfl, rfl⟩
  go_wp2
  go_ret
  exact ⟨rfl, (Below.refl _ _).alloc (Nat.le_refl _) _⟩

set_option maxHeartbeats 1000000 in
theorem SerialDiffs_walk (a0 : Int) (a1 : Int) (w : World) (a0w : (Lit.int .u16 a0).wf = true) (a1w : (Lit.int .u16 a1).wf = true) :
    Calls Try.prog 3 #[.int .u16 a0, .int .u16 a1] w fun e w' => e = .returned (.bool true) ∧ Below w.heap.size w w' := by
  obtain ⟨b1, b2⟩ := wf_u16 a0w
  obtain ⟨b3, b4⟩ := wf_u16 a1w
  clear a0w a1w
  obtain ⟨d, hd⟩ : ∃ d, diffI a0 a1 = d := ⟨_, rfl⟩
  obtain ⟨d', hd'⟩ : ∃ d, diffI a1 a0 = d := ⟨_, rfl⟩
  obtain ⟨g, hg⟩ : ∃ g, decide (0 < diffI a0 a1) = g := ⟨_, rfl⟩
  have db := diff_bd a0 a1
  rw [hd] at db
  obtain ⟨d1, d2⟩ := db
  have hgd : (g == decide (0 < d)) = true := by rw [← hg, hd]; simp
  have hs : (IntKind.u16.wrap (a0 + IntKind.u16.wrap d) == a1) = true := by
    simp [IntKind.wrap, IntKind.bits, IntKind.signed]; unfold diffI at hd; omega
  have hn : d = -32768 ∨ d' = -d := by unfold diffI at hd hd'; omega
  have HD := Lib.hid hd
  have HD' := Lib.hid hd'
  have HG := Lib.hid hg
  clear hd hd' hg
  by_cases hx : d = -32768
  · have n1 : (d == -32768) = true := by simp [hx]
    clear hn hx
    go_enter Try.func3, Try.ntmps3
    go_wp2_with fail
    refine (law01_awake _).mono ?_
    rintro e w1 ⟨rfl, hb⟩
    go_wp2_with fail
    refine (serial_Diff _ _ _ HD.out _).mono ?_
    rintro e w' ⟨rfl, rfl⟩
    go_wp2_with fail
    refine (ref01_Diff _ _ _ b1 b2 b3 b4 HD.out _).mono ?_
    rintro e w' ⟨rfl, rfl⟩
    go_wp2_with fail
    refine (serial_Less _ _ _ HG.out _).mono ?_
    rintro e w' ⟨rfl, rfl⟩
    go_wp2_with fail
    go_ret
    exact ⟨rfl, hb⟩
  · have n1 : (d == -32768) = false := by simp [hx]
    have n2 : (d' == -d) = true := by simp; omega
    clear hn hx
    go_enter Try.func3, Try.ntmps3
    go_wp2_with fail
    refine (law01_awake _).mono ?_
    rintro e w1 ⟨rfl, hb⟩
    go_wp2_with fail
    refine (serial_Diff _ _ _ HD.out _).mono ?_
    rintro e w' ⟨rfl, rfl⟩
    go_wp2_with fail
    refine (ref01_Diff _ _ _ b1 b2 b3 b4 HD.out _).mono ?_
    rintro e w' ⟨rfl, rfl⟩
    go_wp2_with fail
    refine (serial_Less _ _ _ HG.out _).mono ?_
    rintro e w' ⟨rfl, rfl⟩
    go_wp2_with fail
    refine (serial_Diff _ _ _ HD'.out _).mono ?_
    rintro e w' ⟨rfl, rfl⟩
    go_wp2_with fail
    go_ret
    exact ⟨rfl, hb⟩

set_option maxHeartbeats 1000000 in
theorem SerialAdds_walk (a0 : Int) (a1 : Int) (a2 : Int) (w : World) (a0w : (Lit.int .u16 a0).wf = true) (a1w : (Lit.int .u16 a1).wf = true) (a2w : (Lit.int .u16 a2).wf = true) :
    Calls Try.prog 5 #[.int .u16 a0, .int .u16 a1, .int .u16 a2] w fun e w' => e = .returned (.bool true) ∧ Below w.heap.size w w' := by
  clear a0w a1w a2w
  obtain ⟨d, hd⟩ : ∃ d, diffI a0 a1 = d := ⟨_, rfl⟩
  obtain ⟨d', hd'⟩ : ∃ d, diffI a1 a2 = d := ⟨_, rfl⟩
  obtain ⟨g, hg⟩ : ∃ d, diffI a0 a2 = d := ⟨_, rfl⟩
  have db := diff_bd a0 a1
  have db' := diff_bd a1 a2
  rw [hd] at db
  rw [hd'] at db'
  obtain ⟨d1, d2⟩ := db
  obtain ⟨d3, d4⟩ := db'
  have hn : -32768 ≤ d + d' → d + d' ≤ 32767 → g = d + d' := by unfold diffI at hd hd' hg; omega
  have HD := Lib.hid hd
  have HD' := Lib.hid hd'
  have HG := Lib.hid hg
  clear hd hd' hg
  by_cases h1 : d + d' < -32768
  · have n1 : decide (d + d' < -32768) = true := by simpa using h1
    clear hn
    go_enter Try.func5, Try.ntmps5
    go_wp2_with fail
    refine (law01_awake _).mono ?_
    rintro e w1 ⟨rfl, hb⟩
    go_wp2_with fail
    refine (serial_Diff _ _ _ HD.out _).mono ?_
    rintro e w' ⟨rfl, rfl⟩
    go_wp2_with fail
    refine (serial_Diff _ _ _ HD'.out _).mono ?_
    rintro e w' ⟨rfl, rfl⟩
    go_wp2_with fail
    go_ret
    exact ⟨rfl, hb⟩
  · by_cases h2 : 32767 < d + d'
    · clear hn
      go_enter Try.func5, Try.ntmps5
      go_wp2_with fail
      refine (law01_awake _).mono ?_
      rintro e w1 ⟨rfl, hb⟩
      go_wp2_with fail
      refine (serial_Diff _ _ _ HD.out _).mono ?_
      rintro e w' ⟨rfl, rfl⟩
      go_wp2_with fail
      refine (serial_Diff _ _ _ HD'.out _).mono ?_
      rintro e w' ⟨rfl, rfl⟩
      go_wp2_with fail
      go_ret
      exact ⟨rfl, hb⟩
    · have hg2 := hn (by omega) (by omega)
      have n2 : (g == d + d') = true := by simp [hg2]
      clear hn hg2
      go_enter Try.func5, Try.ntmps5
      go_wp2_with fail
      refine (law01_awake _).mono ?_
      rintro e w1 ⟨rfl, hb⟩
      go_wp2_with fail
      refine (serial_Diff _ _ _ HD.out _).mono ?_
      rintro e w' ⟨rfl, rfl⟩
      go_wp2_with fail
      refine (serial_Diff _ _ _ HD'.out _).mono ?_
      rintro e w' ⟨rfl, rfl⟩
      go_wp2_with fail
      refine (serial_Diff _ _ _ HG.out _).mono ?_
      rintro e w' ⟨rfl, rfl⟩
      go_wp2_with fail
      go_ret
      exact ⟨rfl, hb⟩

/-- How a round's step is found again. -/
theorem ext_step (l x : Int) (h1 : -4611686018427387904 ≤ l) (h2 : l ≤ 4611686018427387904) :
    (x % 65536 - 32767 < 32768 → extI l ((l + (x % 65536 - 32767)) % 65536) = l + (x % 65536 - 32767)) ∧ (x % 65536 - 32767 = 32768 → extI l ((l + (x % 65536 - 32767)) % 65536) = l - 32768) := by
  rw [ext_near _ _ h1 h2]; unfold diffI; omega

attribute [local go_sem] i64_and65535
set_option maxHeartbeats 2000000 in
theorem SerialExtends_walk (a0 : Int) (a1a : Option Addr) (a1l a1c : Nat) (a1e0 : Nat → Int) (w : World) (a0w : (Lit.int .i64 a0).wf = true) (a1S : SliceOf w a1a a1l a1c 1 (fun i => [.int .i64 (a1e0 i)])) (a1F0 : ∀ i, i < a1l → (Lit.int .i64 (a1e0 i)).wf = true) :
    Calls Try.prog 4 #[.int .i64 a0, .slice a1a a1l a1c] w fun e w' => e = .returned (.bool true) ∧ Below w.heap.size w w' := by
  clear a0w a1F0
  have hlen := a1S.size_le
  obtain ⟨s, hs⟩ : ∃ s, a0 / 65536 = s := ⟨_, rfl⟩
  obtain ⟨t, ht⟩ : ∃ t, s % 65536 = t := ⟨_, rfl⟩
  have t1 : 0 ≤ t := by omega
  have t2 : t ≤ 65535 := by omega
  obtain ⟨x, hx⟩ : ∃ x, extI a0 t = x := ⟨_, rfl⟩
  obtain ⟨c, hc⟩ : ∃ c, clipI a0 (-1099511627776) 1099511627776 = c := ⟨_, rfl⟩
  have hcc := clip_cases _ _ _ _ (by omega) hc
  have hcb : -1099511627776 ≤ c ∧ c ≤ 1099511627776 := by rw [← hc]; exact clip_bd _ _ _ (by omega)
  obtain ⟨c1, c2⟩ := hcb
  have hwr : ∀ z : Int, IntKind.u16.wrap z = z % 65536 := fun z => by simp [IntKind.wrap, IntKind.bits, IntKind.signed]
  have HX := Lib.hid hx
  have HT := Lib.hid ht
  have HW := Lib.hid hwr
  have HS := Lib.hid a1S
  clear hx ht a1S hc hwr
  rcases hcc with ⟨s1, s2⟩ | ⟨s1, s3, s2⟩ | ⟨s1, s2⟩
  all_goals
    subst s2
    go_enter Try.func4, Try.ntmps4
    go_wp2_with fail
    refine (law01_awake _).mono ?_
    rintro e w1 ⟨rfl, hb⟩
    go_wp2_with fail
    refine (serial_Extend _ _ x (by rw [HW.out, HT.out]; exact HX.out) _).mono ?_
    rintro e w' ⟨rfl, rfl⟩
    go_wp2_with fail
    refine (ref01_Low _ t HT.out _).mono ?_
    rintro e w' ⟨rfl, rfl⟩
    go_wp2_with fail
    refine (ref01_Extend _ _ x t1 t2 HX.out _).mono ?_
    rintro e w' ⟨rfl, rfl⟩
    go_wp2_with fail
    go_loop [0, 5] (fun v i => ∃ (k : Nat) (l : Int), k ≤ a1l ∧ k ≤ 40 ∧ -1099511627776 - 65536 * k ≤ l ∧ l ≤ 1099511627776 + 65536 * k ∧ i = .int .i64 k ∧ v = .int .i64 l) (fun _ i => a1l - (intOf i).toNat)
    case atStart => exact ⟨0, _, Nat.zero_le _, Nat.zero_le _, by omega, by omega, rfl, rfl⟩
    case round =>
      obtain ⟨k, l, hk, hk4, hl1, hl2, rfl, rfl⟩ := hrel
      by_cases hlt : k < a1l
      · by_cases h40 : k < 40
        · obtain ⟨b, off, rfl, hbb, hcell⟩ := HS.out.at1 (by omega)
          have c0 := (hb.cell (p := ⟨b, off + k, none⟩) hbb).trans (hcell k hlt)
          clear hcell
          obtain ⟨y, hy⟩ : ∃ y, a1e0 k % 65536 = y := ⟨_, rfl⟩
          have y1 : 0 ≤ y := by omega
          have y2 : y ≤ 65535 := by omega
          have hst := ext_step l (a1e0 k) (by omega) (by omega)
          rw [hy] at hst
          have HST := Lib.hid hst
          clear hst
          by_cases hd : y - 32767 < 32768
          · have HE := Lib.hid (HST.out.1 hd)
            go_wp2_with fail
            refine (serial_Extend _ _ (l + (y - 32767)) (by rw [HW.out]; exact HE.out) _).mono ?_
            rintro e w' ⟨rfl, rfl⟩
            go_wp2
            go_round
            case rel => exact ⟨k + 1, _, by omega, by omega, by omega, by omega, by go_num, rfl⟩
            case measure => simp [intOf]; omega
          · have hd2 : y - 32767 = 32768 := by omega
            have HE := Lib.hid (HST.out.2 hd2)
            have n1 : (y - 32767 == 32768) = true := by simp [hd2]
            clear hd2
            go_wp2_with fail
            refine (serial_Extend _ _ (l - 32768) (by rw [HW.out]; exact HE.out) _).mono ?_
            rintro e w' ⟨rfl, rfl⟩
            go_wp2
            go_round
            case rel => exact ⟨k + 1, _, by omega, by omega, by omega, by omega, by go_num, rfl⟩
            case measure => simp [intOf]; omega
        · have n1 : decide ((k : Int) < 40) = false := by simp; omega
          go_wp2
          go_ret
          exact ⟨rfl, hb⟩
      · go_wp2
        go_ret
        exact ⟨rfl, hb⟩
end Go.Proofs.Yticagajaphoefaa
