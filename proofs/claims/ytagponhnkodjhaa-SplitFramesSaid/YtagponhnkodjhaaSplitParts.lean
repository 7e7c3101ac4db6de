/- The statement SplitParts, walked: it returns true. No condition but the frame's. -/
import Derived.Test.YtagponhnkodjhaaSplitSizes
namespace Go.Proofs.Ytagponhnkodjhaa
open Go.RowKit BigFrame
attribute [local go_sem ↓] Go.wp_at_zero Go.wp_at_succ

set_option maxHeartbeats 2000000 in
theorem ref23_SplitNo (s : ByteArray) (z : Int) (n : Nat) (hs : s.size ≤ 100000) (hn : clipI z 1 1472 = (n : Int)) (hok : n * 255 < s.size) (w : World) :
    Calls Try.prog 10 #[.string s, .int .i64 z] w fun e w' => e = .returned (.slice none 0 0) ∧ w = w' := by
  have hb := clip_bd z 1 1472 (by omega)
  rw [hn] at hb
  obtain ⟨m, hm⟩ : ∃ m, (if 1472 < z then 1472 else z) = m := ⟨_, rfl⟩
  have hm2 : (if 1 < m then m else 1) = (n : Int) := by rw [← hn, ← hm]; unfold clipI; split <;> split <;> omega
  have w1 : IntKind.i64.wrap ((s.size : Int) + (n : Int)) = (s.size : Int) + (n : Int) := IntWalk.i64_in _ (by omega)
  have w2 : IntKind.i64.wrap ((s.size : Int) + (n : Int) - 1) = (s.size : Int) + (n : Int) - 1 := IntWalk.i64_in _ (by omega)
  have n0 : ¬ ((n : Int) = 0) := by omega
  obtain ⟨b1, b2⟩ := hb
  obtain ⟨q, hq⟩ : ∃ q, (s.size + n - 1) / n = q := ⟨_, rfl⟩
  have hqi : ((s.size : Int) + (n : Int) - 1) / (n : Int) = (q : Int) := by
    rw [← hq]
    have : ((s.size + n - 1 : Nat) : Int) = (s.size : Int) + (n : Int) - 1 := by omega
    rw [← this]
    exact (Int.natCast_ediv _ _).symm
  have hq255 : 255 < q := by
    rw [← hq]
    exact (Nat.le_div_iff_mul_le (by omega)).2 (by omega)
  have hq2 : (if (1 : Int) < (q : Int) then (q : Int) else 1) = (q : Int) := by split <;> omega
  have j1 : decide ((255 : Int) < (q : Int)) = true := by simp; omega
  clear hn hq hok
  go_enter Try.func10, Try.ntmps10
  go_wp2_with fail
  go_ret
  exact ⟨rfl, rfl⟩

theorem all_next (s : ByteArray) (n k : Nat) (h : k * n ≤ s.size) : s.extract 0 (min s.size (k * n)) ++ partB s n k = s.extract 0 (min s.size ((k + 1) * n)) := by
  unfold partB
  rw [Nat.min_eq_right h, Nat.add_mul, Nat.one_mul]
  apply ByteArray.ext
  simp only [ByteArray.data_append, ByteArray.data_extract]
  rw [Array.extract_append_extract]
  congr 1 <;> omega
theorem all_end (s : ByteArray) (n c : Nat) (h : s.size ≤ c * n) : s.extract 0 (min s.size (c * n)) = s := by
  rw [Nat.min_eq_left h]
  exact ByteArray.extract_zero_size

set_option maxRecDepth 8000 in
set_option maxHeartbeats 4000000 in
theorem SplitParts_walk (a0 : ByteArray) (a1 : Int) (w : World) (a0w : a0.size ≤ maxLen) (_w1 : (Lit.int .i64 a1).wf = true) :
    Calls Try.prog 3 #[.string a0, .int .i64 a1] w fun e w' => e = .returned (.bool true) ∧ Below w.heap.size w w' := by
  clear _w1
  obtain ⟨s, hs⟩ : ∃ s, cutB a0 600 = s := ⟨_, rfl⟩
  have hs6 : s.size ≤ 600 := by rw [← hs]; exact (cutB_size a0 600).1
  have HC := Lib.hid (fun W => law02_Cut a0 s 600 a0w (by omega) hs W)
  obtain ⟨n, hn⟩ : ∃ n : Nat, clipI a1 1 1472 = (n : Int) := ⟨(clipI a1 1 1472).toNat, by have := clip_bd a1 1 1472 (by omega); omega⟩
  have hb := clip_bd a1 1 1472 (by omega)
  rw [hn] at hb
  obtain ⟨b1, b2⟩ := hb
  have HN := Lib.hid hn
  clear hs hn a0w
  by_cases hok : s.size ≤ n * 255
  · go_enter Try.func3, Try.ntmps3
    go_wp2_with fail
    refine (law23_awake w).mono ?_
    rintro e w1 ⟨rfl, B1⟩
    go_wp2_with fail
    refine (HC.out _).mono ?_
    rintro e w' ⟨rfl, rfl⟩
    go_wp2_with fail
    refine (split_Split s a1 n (by omega) HN.out hok w1).mono ?_
    rintro e w2 ⟨v, rfl, own, hb2⟩
    have B2 := below_then B1 hb2 (Nat.le_refl _)
    obtain ⟨c, hc⟩ : ∃ c, countB s n = c := ⟨_, rfl⟩
    rw [hc] at own
    obtain ⟨f1, f2, f3, f4⟩ := count_facts s n (by omega) hok
    rw [hc] at f1 f2 f3 f4
    obtain ⟨a, cp, rfl, S⟩ := SliceOf.of_own own (fun i => .string (partB s n i)) (fun i hi => partCells_get s n c i hi)
    go_wp2_with fail
    refine (ref23_Split s a1 n (by omega) HN.out hok w2).mono ?_
    rintro e w3 ⟨v, rfl, own2, hb3⟩
    rw [hc] at own2
    obtain ⟨a', cp', rfl, S2⟩ := SliceOf.of_own own2 (fun i => .string (partB s n i)) (fun i hi => partCells_get s n c i hi)
    have S1 := S.below hb3
    have B3 := below_then B2 hb3 (Nat.le_refl _)
    obtain ⟨b, off, rfl, hbb, hcell⟩ := S1.at1 (by omega)
    obtain ⟨b', off', rfl, hbb', hcell'⟩ := S2.at1 (by omega)
    have HCE := Lib.hid hcell
    have HCE' := Lib.hid hcell'
    have HF := Lib.hid f3
    have j0 : ((c : Int) != (c : Int)) = false := by simp
    clear own own2 S S1 S2 hcell hcell' hc hb2 hb3 f3
    go_wp2_with fail
    go_loopw [7, 27] (fun x7 x wr => ∃ k : Nat, k ≤ c ∧ x = .int .i64 k ∧ x7 = .string (s.extract 0 (min s.size (k * n))) ∧ w3 = wr) (fun _ x _ => c - (intOf x).toNat)
    case atStart => exact ⟨0, by omega, rfl, by simp; rfl, rfl⟩
    case round =>
      obtain ⟨k, hk, rfl, rfl, rfl⟩ := hrel
      by_cases hlt : k < c
      · have d := HCE.out k hlt
        have d' := HCE'.out k hlt
        have hkn : k * n ≤ s.size := by
          have : k * n ≤ (c - 1) * n := Nat.mul_le_mul_right n (by omega)
          rcases HF.out with h | h
          · have : k = 0 := by omega
            subst this; simp
          · omega
        have hnx := all_next s n k hkn
        obtain ⟨p, hp⟩ : ∃ p, partB s n k = p := ⟨_, rfl⟩
        obtain ⟨A, hA⟩ : ∃ A, s.extract 0 (min s.size (k * n)) = A := ⟨_, rfl⟩
        rw [hp] at d d' hnx
        rw [hA] at hnx ⊢
        have HNX := Lib.hid hnx
        have i0 : (0 : Int) ≤ (k : Int) := by omega
        have i1 : (k : Int) < (c : Int) := by omega
        have wk : IntKind.i64.wrap ((k : Int) + 1) = ((k + 1 : Nat) : Int) := by rw [IntWalk.i64_in _ (by omega)]; omega
        have z1 : A.size ≤ 600 := by rw [← hA]; simp; omega
        have z2 : p.size ≤ 600 := by rw [← hp]; unfold partB; simp; omega
        have z3 : ¬ 9223372036854775807 < A.size + p.size := by omega
        clear hp hA hnx hkn
        go_wp2_with fail
        go_roundw
        case rel => exact ⟨k + 1, by omega, by go_num, by rw [← HNX.out], by trivial⟩
        case measure => simp only [intOf]; omega
      · obtain rfl : k = c := by omega
        have he := all_end s n k f4
        have j2 : ((k : Int) == 0) = false := by simp; omega
        have j4 : decide ((k : Int) = 0) = false := by simp; omega
        rw [he]
        clear he
        go_wp2_with fail
        go_ret
        exact ⟨rfl, B3⟩
  · have hok2 : n * 255 < s.size := by omega
    have HOK := Lib.hid hok2
    clear hok hok2
    go_enter Try.func3, Try.ntmps3
    go_wp2_with fail
    refine (law23_awake w).mono ?_
    rintro e w1 ⟨rfl, B1⟩
    go_wp2_with fail
    refine (HC.out _).mono ?_
    rintro e w' ⟨rfl, rfl⟩
    go_wp2_with fail
    refine (split_SplitNo s a1 n (by omega) HN.out HOK.out w1).mono ?_
    rintro e w2 ⟨rfl, rfl⟩
    go_wp2_with fail
    refine (ref23_SplitNo s a1 n (by omega) HN.out HOK.out w1).mono ?_
    rintro e w2 ⟨rfl, rfl⟩
    go_wp2_with fail
    go_loopw [7, 27] (fun x7 x wr => ∃ k : Nat, k ≤ 0 ∧ x = .int .i64 k ∧ x7 = .string ByteArray.empty ∧ w1 = wr) (fun _ x _ => 1 - (intOf x).toNat)
    case atStart => exact ⟨0, by omega, rfl, rfl, rfl⟩
    case round =>
      obtain ⟨k, hk, rfl, rfl, rfl⟩ := hrel
      obtain rfl : k = 0 := by omega
      go_wp2_with fail
      go_ret
      exact ⟨rfl, B1⟩
end Go.Proofs.Ytagponhnkodjhaa
