/- The statement SplitSizes, walked: it returns true. No condition but the frame's. -/
import Derived.Test.YtagponhnkodjhaaSplit3
namespace Go.Proofs.Ytagponhnkodjhaa
open Go.RowKit BigFrame
attribute [local go_sem ↓] Go.wp_at_zero Go.wp_at_succ

theorem count_facts (s : ByteArray) (n : Nat) (hn : 0 < n) (hok : s.size ≤ n * 255) : 1 ≤ countB s n ∧ countB s n ≤ 255 ∧ (countB s n = 1 ∨ (countB s n - 1) * n < s.size) ∧ s.size ≤ countB s n * n := by
  unfold countB
  by_cases h : s.size ≤ n
  · rw [if_pos h]; omega
  · rw [if_neg h]
    have h1 : 1 ≤ (s.size + n - 1) / n := (Nat.le_div_iff_mul_le (by omega)).2 (by omega)
    have h2 := Nat.div_add_mod (s.size + n - 1) n
    have h3 := Nat.mod_lt (s.size + n - 1) hn
    rw [Nat.mul_comm] at h2
    have h4 : ((s.size + n - 1) / n - 1) * n < s.size := by rw [Nat.sub_mul]; omega
    refine ⟨h1, ?_, .inr h4, by omega⟩
    have : ((s.size + n - 1) / n - 1) * n < 255 * n := by omega
    have := Nat.lt_of_mul_lt_mul_right this
    omega
theorem part_size (s : ByteArray) (n i : Nat) (hn : 0 < n) (hok : s.size ≤ n * 255) (hi : i < countB s n) : (partB s n i).size ≤ n ∧ (i + 1 < countB s n → (partB s n i).size = n) ∧ (0 < s.size → 0 < (partB s n i).size) := by
  obtain ⟨h1, h2, h3, h4⟩ := count_facts s n hn hok
  have e : (partB s n i).size = min s.size (i * n + n) - i * n := by unfold partB; simp
  have hle : i * n ≤ (countB s n - 1) * n := Nat.mul_le_mul_right n (by omega)
  refine ⟨by omega, fun hl => ?_, fun hs => ?_⟩
  · have : (i + 1) * n ≤ (countB s n - 1) * n := Nat.mul_le_mul_right n (by omega)
    rw [Nat.add_mul] at this
    rcases h3 with h3 | h3 <;> omega
  · rcases h3 with h3 | h3
    · have : i = 0 := by omega
      subst this
      simp at e
      omega
    · omega

theorem toList_nil (s : ByteArray) : s.toList = [] ↔ s.size = 0 := by
  rw [ByteArray.toList_eq]
  cases s
  simp [ByteArray.size]

set_option maxRecDepth 8000 in
set_option maxHeartbeats 4000000 in
theorem SplitSizes_walk (a0 : ByteArray) (a1 : Int) (w : World) (a0w : a0.size ≤ maxLen) (_w1 : (Lit.int .i64 a1).wf = true) :
    Calls Try.prog 4 #[.string a0, .int .i64 a1] w fun e w' => e = .returned (.bool true) ∧ Below w.heap.size w w' := by
  clear _w1
  obtain ⟨s, hs⟩ : ∃ s, cutB a0 600 = s := ⟨_, rfl⟩
  have hs6 : s.size ≤ 600 := by rw [← hs]; exact (cutB_size a0 600).1
  have HC := Lib.hid (fun W => law02_Cut a0 s 600 a0w (by omega) hs W)
  obtain ⟨n, hn⟩ : ∃ n : Nat, clipI a1 1 1472 = (n : Int) := ⟨(clipI a1 1 1472).toNat, by have := clip_bd a1 1 1472 (by omega); omega⟩
  have hb := clip_bd a1 1 1472 (by omega)
  rw [hn] at hb
  obtain ⟨m, hm⟩ : ∃ m, (if 1472 < a1 then 1472 else a1) = m := ⟨_, rfl⟩
  have hm2 : (if 1 < m then m else 1) = (n : Int) := by rw [← hn, ← hm]; unfold clipI; split <;> split <;> omega
  have wn : IntKind.i64.wrap (255 * (n : Int)) = 255 * (n : Int) := IntWalk.i64_in _ (by omega)
  obtain ⟨b1, b2⟩ := hb
  have HN := Lib.hid hn
  clear hs hn a0w
  by_cases hok : s.size ≤ n * 255
  · go_enter Try.func4, Try.ntmps4
    go_wp2_with fail
    refine (law23_awake w).mono ?_
    rintro e w1 ⟨rfl, B1⟩
    go_wp2_with fail
    refine (HC.out _).mono ?_
    rintro e w' ⟨rfl, rfl⟩
    go_wp2_with fail
    refine (split_Split s a1 n (by omega) HN.out hok w1).mono ?_
    rintro e w2 ⟨v, rfl, own, hb2⟩
    have B2 := below_then B1 hb2 (Nat.le_refl _)
    obtain ⟨c, hc⟩ : ∃ c, countB s n = c := ⟨_, rfl⟩
    rw [hc] at own
    obtain ⟨f1, f2, f3, f4⟩ := count_facts s n (by omega) hok
    rw [hc] at f1 f2 f3 f4
    obtain ⟨a, cp, rfl, S⟩ := SliceOf.of_own own (fun i => .string (partB s n i)) (fun i hi => partCells_get s n c i hi)
    obtain ⟨b, off, rfl, hbb, hcell⟩ := S.at1 (by omega)
    have HCE := Lib.hid hcell
    have HCC := Lib.hid hc
    clear own S hcell hc hb2
    go_wp2_with fail
    go_loopw [21] (fun x wr => ∃ k : Nat, k ≤ c ∧ x = .int .i64 k ∧ w2 = wr) (fun x _ => c - (intOf x).toNat)
    case atStart => exact ⟨0, by omega, rfl, rfl⟩
    case round =>
      obtain ⟨k, hk, rfl, rfl⟩ := hrel
      by_cases hlt : k < c
      · have d := HCE.out k hlt
        obtain ⟨p1, p2, p3⟩ := part_size s n k (by omega) hok (by rw [HCC.out]; exact hlt)
        rw [HCC.out] at p2
        obtain ⟨p, hp⟩ : ∃ p, partB s n k = p := ⟨_, rfl⟩
        rw [hp] at d p1 p2 p3
        have i0 : (0 : Int) ≤ (k : Int) := by omega
        have i1 : (k : Int) < (c : Int) := by omega
        have wk : IntKind.i64.wrap ((k : Int) + 1) = ((k + 1 : Nat) : Int) := by rw [IntWalk.i64_in _ (by omega)]; omega
        have wc : IntKind.i64.wrap ((c : Int) - 1) = (c : Int) - 1 := IntWalk.i64_in _ (by omega)
        have hcs : 0 < s.size ∨ c = 1 := by
          rcases f3 with h | h
          · exact .inr h
          · exact .inl (by omega)
        clear hp
        by_cases hs0 : s.size = 0
        · have e1 : s.toList = [] := (toList_nil s).2 hs0
          have hl : ¬ (k : Int) < (c : Int) - 1 := by omega
          have hpn : ¬ n < p.size := by omega
          have hs0' := Lib.hid hs0
          clear p2 p3 hs0 hcs f3
          have e2 : s.toList.isEmpty = true := by rw [e1]; rfl
          go_wp2_with fail
          all_goals first
            | (exfalso; omega)
            | (exfalso; simp_all; done)
            | (go_roundw
               case rel => exact ⟨k + 1, by omega, by go_num, by trivial⟩
               case measure => simp only [intOf]; omega)
        · have e1 : ¬ s.toList = [] := fun h => hs0 ((toList_nil s).1 h)
          have e2 : ¬ p.toList = [] := fun h => by have := (toList_nil p).1 h; have := p3 (by omega); omega
          have hpn : ¬ n < p.size := by omega
          by_cases hl : k + 1 < c
          · have hpn2 : p.size = n := p2 hl
            have j3 : (k : Int) < (c : Int) - 1 := by omega
            have j4 : ((p.size : Int) != (n : Int)) = false := by rw [hpn2]; simp
            have HPN := Lib.hid hpn2
            clear hpn2 p2 p3 hcs
            go_wp2_with fail
            all_goals first
              | (exfalso; omega)
              | (exfalso; simp_all; done)
              | (go_roundw
                 case rel => exact ⟨k + 1, by omega, by go_num, by trivial⟩
                 case measure => simp only [intOf]; omega)
          · have j3 : ¬ (k : Int) < (c : Int) - 1 := by omega
            clear p2 p3 hcs
            go_wp2_with fail
            all_goals first
              | (exfalso; omega)
              | (exfalso; simp_all; done)
              | (go_roundw
                 case rel => exact ⟨k + 1, by omega, by go_num, by trivial⟩
                 case measure => simp only [intOf]; omega)
      · obtain rfl : k = c := by omega
        have j1 : decide ((k : Int) ≤ 255) = true := by simp; omega
        have j2 : ((k : Int) == 0) = false := by simp; omega
        have j3 : decide (255 * (n : Int) < (s.size : Int)) = false := by simp; omega
        have j4 : decide ((k : Int) = 0) = false := by simp; omega
        go_wp2_with fail
        go_ret
        exact ⟨rfl, B2⟩
  · have j3 : decide (255 * (n : Int) < (s.size : Int)) = true := by simp; omega
    have hok2 : n * 255 < s.size := by omega
    have HOK := Lib.hid hok2
    clear hok hok2
    go_enter Try.func4, Try.ntmps4
    go_wp2_with fail
    refine (law23_awake w).mono ?_
    rintro e w1 ⟨rfl, B1⟩
    go_wp2_with fail
    refine (HC.out _).mono ?_
    rintro e w' ⟨rfl, rfl⟩
    go_wp2_with fail
    refine (split_SplitNo s a1 n (by omega) HN.out HOK.out w1).mono ?_
    rintro e w2 ⟨rfl, rfl⟩
    go_wp2_with fail
    go_loopw [21] (fun x wr => ∃ k : Nat, k ≤ 0 ∧ x = .int .i64 k ∧ w1 = wr) (fun x _ => 1 - (intOf x).toNat)
    case atStart => exact ⟨0, by omega, rfl, rfl⟩
    case round =>
      obtain ⟨k, hk, rfl, rfl⟩ := hrel
      obtain rfl : k = 0 := by omega
      go_wp2_with fail
      go_ret
      exact ⟨rfl, B1⟩
end Go.Proofs.Ytagponhnkodjhaa
